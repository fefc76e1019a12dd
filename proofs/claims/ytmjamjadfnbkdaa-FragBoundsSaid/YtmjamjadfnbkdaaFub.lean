/-
  Fragments: lists of good entries stay as they are; what adding a piece of a message does to a list that holds it in part. Plain laws.
-/
import Derived.Test.YtmjamjadfnbkdaaFua
import Derived.Test.YtmjamjadfnbkdaaFsk
open Go Go.RowKit Go.Proofs
namespace Go.Proofs.Ytmjamjadfnbkdaa
namespace Hub
def otherKey (p q : Pk) : Prop := ¬ (p.src = q.src ∧ p.id = q.id)
/-- Valid entries of different messages, at most eight. -/
def Good (L : List Pk) : Prop := (∀ p ∈ L, validF p = true) ∧ L.Pairwise otherKey ∧ L.length ≤ 8
theorem findF_miss {L : List Pk} {s i : Int} (h : ∀ p ∈ L, ¬ (p.src = s ∧ p.id = i)) : findF L s i = -1 :=
  findF_none fun j hj => by
    have := h L[j] (List.getElem_mem hj)
    unfold keyIs
    rw [Bool.and_eq_false_iff]
    by_cases e : L[j].src = s
    · right
      exact beq_eq_false_iff_ne.2 (fun e2 => this ⟨e, e2⟩)
    · left; exact beq_eq_false_iff_ne.2 e
theorem fold_good (L : List Pk) : ∀ pre : List Pk, (∀ p ∈ L, validF p = true) → (pre ++ L).Pairwise otherKey → L.foldl orderStep pre = pre ++ L := by
  induction L with
  | nil => intro pre _ _; simp
  | cons a L ih =>
    intro pre hv hp
    rw [List.foldl_cons]
    have h1 : findF pre a.src a.id = -1 := findF_miss fun p hpp => (List.pairwise_append.1 hp).2.2 p hpp a (by simp)
    have h2 : orderStep pre a = pre ++ [a] := orderStep_new (hv a (by simp)) (by rw [h1]; decide)
    rw [h2, ih (pre ++ [a]) (fun p hp => hv p (by simp [hp])) (by rw [List.append_assoc]; exact hp), List.append_assoc]; rfl
theorem orderF_good {L : List Pk} (h : Good L) : orderF L = L := by
  have : orderAll L = L := by
    have := fold_good L [] h.1 (by simpa using h.2.1)
    simpa [orderAll] using this
  unfold orderF
  rw [this, show L.length - 8 = 0 by have := h.2.2; omega, List.drop_zero]
theorem findF_mid {A B : List Pk} {p : Pk} (h : Good (A ++ p :: B)) : findF (A ++ p :: B) p.src p.id = (A.length : Int) := by
  have hp := (List.pairwise_append.1 h.2.1).2.2
  refine findF_step (k := A.length) (fun j hj hlt => ?_) (by simp) ?_
  · rw [List.getElem_append_left hlt]
    have := hp A[j] (List.getElem_mem hlt) p (by simp)
    unfold keyIs
    rw [Bool.and_eq_false_iff]
    by_cases e : A[j].src = p.src
    · exact .inr (beq_eq_false_iff_ne.2 (fun e2 => this ⟨e, e2⟩))
    · exact .inl (beq_eq_false_iff_ne.2 e)
  · rw [List.getElem_append_right (Nat.le_refl _)]
    simp [keyIs]
/-- A message that has arrived in part. -/
def stP (s : ByteArray) (src id : Int) (n : Nat) (since : Int) (sn : List Bool) : Pk :=
  ⟨src, id, n, since, sn, (List.range n).map fun i => if sn.getD i false = true then dataF s i else ByteArray.empty⟩
theorem getD_at {α : Type} {l : List α} {k : Nat} {d : α} (h : k < l.length) : l.getD k d = l[k] := by rw [List.getD_eq_getElem?_getD, List.getElem?_eq_getElem h]; rfl
theorem setF_stP (s : ByteArray) (src id since : Int) {n k : Nat} {sn : List Bool} (hl : sn.length = n) (hk : k < n) : setF (stP s src id n since sn) k (dataF s k) = stP s src id n since (sn.set k true) := by
  have hkl : k < sn.length := by omega
  cases e : sn[k] with
  | true =>
    rw [setF_old (by exact hkl) (by exact e)]
    congr 1
    rw [← e, List.set_getElem_self]
  | false =>
    rw [setF_new (by exact hkl) (by exact e)]
    unfold stP
    dsimp only
    congr 1
    apply List.ext_getElem
    · simp
    · intro i h1 h2
      rw [List.getElem_set, List.getElem_map, List.getElem_map, List.getElem_range]
      by_cases e2 : k = i
      · subst e2
        rw [if_pos rfl, getD_at (by rw [List.length_set]; exact hkl), List.getElem_set_self, if_pos rfl]
      · rw [if_neg e2]
        have : (sn.set k true).getD i false = sn.getD i false := by
          rw [List.getD_eq_getElem?_getD, List.getD_eq_getElem?_getD, List.getElem?_set_ne e2]
        rw [this]
theorem newP_stP (s : ByteArray) (src id now : Int) (n : Nat) : newP src id (n : Int) now = stP s src id n (limF now) (List.replicate n false) := by
  unfold newP stP
  rw [Int.toNat_natCast]
  congr 1
  apply List.ext_getElem
  · simp
  · intro i h1 h2
    rw [List.getElem_replicate, List.getElem_map, List.getElem_range, if_neg]
    rw [List.getD_eq_getElem?_getD, List.getElem?_replicate]
    split <;> simp
theorem all_at {sn : List Bool} (h : sn.all id = true) {i : Nat} (hi : i < sn.length) : sn.getD i false = true := by
  rw [getD_at hi]
  rw [List.all_eq_true] at h
  exact h _ (List.getElem_mem hi)
theorem stP_join {s : ByteArray} {src id' since : Int} {sn : List Bool} (hl : sn.length = cntS s) (ha : sn.all id = true) : joinP (stP s src id' (cntS s) since sn) = s := by
  have e : ((List.range (cntS s)).map fun i => if sn.getD i false = true then dataF s i else ByteArray.empty) = (List.range (cntS s)).map (dataF s) :=
    List.map_congr_left fun i hi => by rw [if_pos (all_at ha (by rw [hl]; exact List.mem_range.1 hi))]
  unfold joinP stP
  dsimp only
  rw [e, data_all]
theorem arr_full {sn : List Bool} (h : sn.all id = false) : arrF sn < sn.length := by
  unfold arrF
  refine Nat.lt_of_le_of_ne List.count_le_length fun e => ?_
  rw [List.count_eq_length] at e
  have : sn.all id = true := List.all_eq_true.2 fun b hb => by have := e b hb; simpa using this.symm
  rw [h] at this; cases this
theorem all_of_arr {sn : List Bool} (h : arrF sn = sn.length) : sn.all id = true := by
  unfold arrF at h
  rw [List.count_eq_length] at h
  exact List.all_eq_true.2 fun b hb => by have := h b hb; simpa using this.symm
theorem stP_valid {s : ByteArray} {src id' since : Int} {sn : List Bool} (hs : s.size ≤ 1000) (h0 : 0 ≤ id') (h1 : id' ≤ 255) (hn : 2 ≤ cntS s) (s0 : 0 ≤ since) (s1 : since ≤ 1099511627776)
    (hl : sn.length = cntS s) (hm : true ∈ sn) (ha : sn.all id = false) : validF (stP s src id' (cntS s) since sn) = true := by
  have hc := cntS_le s hs
  have hhead : headOk (stP s src id' (cntS s) since sn) = true := by
    unfold headOk stP
    dsimp only
    rw [decide_eq_true_eq, List.length_map, List.length_range]
    omega
  have h2 := arr_full ha
  have h3 : 0 < arrF sn := by unfold arrF; exact List.count_pos_iff.2 hm
  have hbody : bodyOk (stP s src id' (cntS s) since sn) := by
    intro i hi
    have hi' : i < sn.length := hi
    have hic : i < cntS s := by omega
    show entOk i (cntS s : Int) (sn.getD i false) (((List.range (cntS s)).map fun i => if sn.getD i false = true then dataF s i else ByteArray.empty).getD i ByteArray.empty) = true
    rw [getD_at (l := (List.range (cntS s)).map _) (by simpa using hic), List.getElem_map, List.getElem_range]
    unfold entOk
    cases sn.getD i false with
    | true => rw [if_pos rfl, if_pos rfl]; exact fitsF_data hs hic
    | false => rw [if_neg (by decide), if_neg (by decide)]; rfl
  unfold validF
  rw [hhead, decide_eq_true hbody, decide_eq_true (show 0 < arrF (stP s src id' (cntS s) since sn).hv from h3), decide_eq_true (show ((arrF (stP s src id' (cntS s) since sn).hv : Nat) : Int) < (stP s src id' (cntS s) since sn).cnt from by show ((arrF sn : Nat) : Int) < (cntS s : Int); omega)]
  rfl
/-- Which of n have arrived, when the first i have. -/
def seenN (n i : Nat) : List Bool := (List.range n).map fun k => decide (k < i)
theorem seenN_len (n i : Nat) : (seenN n i).length = n := by simp [seenN]
theorem seenN_zero (n : Nat) : List.replicate n false = seenN n 0 := by
  apply List.ext_getElem
  · simp [seenN]
  · intro i h1 h2; simp [seenN]
theorem seenN_set (n i : Nat) : (seenN n i).set i true = seenN n (i + 1) := by
  apply List.ext_getElem
  · simp [seenN]
  · intro j h1 h2
    rw [List.getElem_set]
    by_cases e : i = j
    · subst e; rw [if_pos rfl]; simp [seenN]
    · rw [if_neg e]; simp only [seenN, List.getElem_map, List.getElem_range]; exact decide_eq_decide.2 (by omega)
theorem seenN_all {n i : Nat} (h : n ≤ i) : (seenN n i).all id = true := List.all_eq_true.2 fun b hb => by
  obtain ⟨k, hk, rfl⟩ := List.mem_map.1 hb
  have := List.mem_range.1 hk
  simp; omega
theorem seenN_part {n i : Nat} (h : i < n) : (seenN n i).all id = false := by
  rw [List.all_eq_false]
  refine ⟨false, List.mem_map.2 ⟨i, List.mem_range.2 h, by simp⟩, by simp⟩
theorem seenN_mem {n i : Nat} (h : 0 < i) (hn : 0 < n) : true ∈ seenN n i := List.mem_map.2 ⟨0, List.mem_range.2 hn, by simp; omega⟩
section
variable {s : ByteArray} {src id' now : Int} {k : Nat}
/-- A message of one piece. -/
theorem add_single {L : List Pk} (hs : s.size ≤ 1000) (h0 : 0 ≤ id') (h1 : id' ≤ 255) (hn : cntS s = 1) (hL : Good L) (hno : ∀ p ∈ L, ¬ (p.src = src ∧ p.id = id')) :
    addF L src now (pieceF s id' 1 0) = ((L, s, true), 0) := by
  have hk := pieceF_chk (id := id') hs (show 0 < cntS s by omega)
  rw [hn] at hk
  rw [addF_one hk (pieceF_b2 (by decide)), orderF_good hL, pieceF_b0 h0 h1, stage_none (findF_miss hno), pieceF_data]
  have : dataF s 0 = s := by
    apply bl_inj
    rw [bl_dataF]
    have := cntS_cover s
    rw [hn] at this
    rw [Nat.mul_zero, List.drop_zero]
    exact List.take_of_length_le (by rw [size_bl]; omega)
  rw [this]
/-- The first piece that arrives of a message. -/
theorem add_first {L : List Pk} (hs : s.size ≤ 1000) (h0 : 0 ≤ id') (h1 : id' ≤ 255) (hn : 2 ≤ cntS s) (hk : k < cntS s) (hL : Good L) (h8 : L.length < 8) (hno : ∀ p ∈ L, ¬ (p.src = src ∧ p.id = id')) :
    addF L src now (pieceF s id' (cntS s) k) = ((L ++ [stP s src id' (cntS s) (limF now) ((List.replicate (cntS s) false).set k true)], ByteArray.empty, false), 0) := by
  have hc := cntS_le s hs
  have hck := pieceF_chk (id := id') hs hk
  have hb2 : byI (pieceF s id' (cntS s) k) 2 = (cntS s : Int) := pieceF_b2 (by omega)
  have hb1 : byI (pieceF s id' (cntS s) k) 1 = (k : Int) := pieceF_b1 (by omega)
  rw [addF_go hck (by rw [hb2]; omega), orderF_good hL, pieceF_b0 h0 h1, stage_none (findF_miss hno)]
  dsimp only
  rw [goF_new, room_no h8, hb1, hb2, Int.toNat_natCast, pieceF_data, newP_stP s]
  rw [finF_at (by simp)]
  have e : (L ++ [stP s src id' (cntS s) (limF now) (List.replicate (cntS s) false)])[L.length]'(by simp) = stP s src id' (cntS s) (limF now) (List.replicate (cntS s) false) := by
    rw [List.getElem_append_right (Nat.le_refl _)]; simp
  rw [e, setF_stP s _ _ _ (by simp) hk]
  have hw : wholeP (stP s src id' (cntS s) (limF now) ((List.replicate (cntS s) false).set k true)) = false := by
    show ((List.replicate (cntS s) false).set k true).all id = false
    rw [List.all_eq_false]
    obtain ⟨j, hj, hjk⟩ : ∃ j, j < cntS s ∧ j ≠ k := by
      by_cases e : k = 0
      · exact ⟨1, by omega, by omega⟩
      · exact ⟨0, by omega, by omega⟩
    refine ⟨false, List.mem_iff_getElem.2 ⟨j, by simpa using hj, ?_⟩, by simp⟩
    rw [List.getElem_set_ne (by omega), List.getElem_replicate]
  rw [if_neg (by rw [hw]; decide)]
  rw [List.set_append_right _ _ (Nat.le_refl _), Nat.sub_self, List.set_cons_zero]
/-- A further piece of a message, not the last one that arrives. -/
theorem add_more {A B : List Pk} {since : Int} {sn : List Bool} (hs : s.size ≤ 1000) (h0 : 0 ≤ id') (h1 : id' ≤ 255) (hn : 2 ≤ cntS s) (hk : k < cntS s) (hl : sn.length = cntS s) (hL : Good (A ++ stP s src id' (cntS s) since sn :: B)) :
    addF (A ++ stP s src id' (cntS s) since sn :: B) src now (pieceF s id' (cntS s) k) =
      (if (sn.set k true).all id = true then (A ++ B, s, true) else (A ++ stP s src id' (cntS s) since (sn.set k true) :: B, ByteArray.empty, false), 0) := by
  have hc := cntS_le s hs
  have hck := pieceF_chk (id := id') hs hk
  have hb2 : byI (pieceF s id' (cntS s) k) 2 = (cntS s : Int) := pieceF_b2 (by omega)
  have hb1 : byI (pieceF s id' (cntS s) k) 1 = (k : Int) := pieceF_b1 (by omega)
  have hf := findF_mid hL
  have hAl : A.length < (A ++ stP s src id' (cntS s) since sn :: B).length := by simp
  have e : (A ++ stP s src id' (cntS s) since sn :: B)[A.length]'hAl = stP s src id' (cntS s) since sn := by
    rw [List.getElem_append_right (Nat.le_refl _)]; simp
  rw [addF_go hck (by rw [hb2]; omega), orderF_good hL, pieceF_b0 h0 h1, hb1, hb2]
  rw [stage_same (show findF (A ++ stP s src id' (cntS s) since sn :: B) src id' = (A.length : Int) from hf) hAl (by rw [e]; rfl)]
  dsimp only
  rw [goF_old, Int.toNat_natCast, pieceF_data, finF_at hAl, e, setF_stP s _ _ _ hl hk]
  cases ha : (sn.set k true).all id with
  | true =>
    rw [if_pos (show wholeP (stP s src id' (cntS s) since (sn.set k true)) = true from ha), if_pos rfl, stP_join (by rw [List.length_set]; exact hl) ha]
    rw [List.eraseIdx_append_of_length_le (Nat.le_refl _), Nat.sub_self, List.eraseIdx_cons_zero]
  | false =>
    rw [if_neg (by rw [show wholeP (stP s src id' (cntS s) since (sn.set k true)) = false from ha]; decide), if_neg (by decide)]
    rw [List.set_append_right _ _ (Nat.le_refl _), Nat.sub_self, List.set_cons_zero]
end
end Hub
end Go.Proofs.Ytmjamjadfnbkdaa
