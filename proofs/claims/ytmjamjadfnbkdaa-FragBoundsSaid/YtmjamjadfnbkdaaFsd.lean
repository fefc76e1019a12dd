/-
  Fragments: an entry of a list of the call's own is written; what is plain of entries in order.
-/
import Derived.Test.YtmjamjadfnbkdaaFsc
open Go Go.RowKit Go.Proofs
namespace Go.Proofs.Ytmjamjadfnbkdaa
namespace Hub
theorem OwnP.tch {w w' : World} {base B : Nat} {v : Value} {l : List Pt} (h : OwnP w base v l) (k : Tch B w w') (hB : v.ownBlock = none ∨ v.ownBlock ≠ some B) : OwnP w' base v l := World.ownsRow.kept h k hB
theorem OwnQ.tchT {w w' : World} {base base' B n c : Nat} {v : Value} {l : List Pt} {m : List Bool} (h : OwnQ w base v l) (k : Tch B w w') (t : OwnT w base' (.slice (some ⟨B, 0, none⟩) n c) m) : OwnQ w' base v l := by
  rcases h with h | ⟨h8, g, cap, pre, hv, hc, h, hs⟩
  · exact .inl (h.tch k (pt_ne h t).2)
  · exact .inr ⟨h8, g, cap, pre, hv, hc, h.tch k (pt_ne h t).2, hs⟩
theorem OwnQ.tchS {w w' : World} {base base' B n c : Nat} {v : Value} {l : List Pt} {m : List ByteArray} (h : OwnQ w base v l) (k : Tch B w w') (t : OwnS w base' (.slice (some ⟨B, 0, none⟩) n c) m) : OwnQ w' base v l := by
  rcases h with h | ⟨h8, g, cap, pre, hv, hc, h, hs⟩
  · exact .inl (h.tch k (ps_ne h t).2)
  · exact .inr ⟨h8, g, cap, pre, hv, hc, h.tch k (ps_ne h t).2, hs⟩
theorem pcells_set (l : List Pt) (k : Nat) (q : Pk) (hk : k < l.length) (h1 : q.src = l[k].pk.src) (h2 : q.id = l[k].pk.id) (h3 : q.cnt = l[k].pk.cnt) (h4 : q.since = l[k].pk.since) :
    (l.set k ⟨q, l[k].vh, l[k].vd⟩).flatMap pcells = l.flatMap pcells := by
  rw [List.flatMap_def, List.flatMap_def, List.map_set]
  congr 1
  have : pcells ⟨q, l[k].vh, l[k].vd⟩ = (l.map pcells)[k]'(by rw [List.length_map]; exact hk) := by
    rw [List.getElem_map]; simp [pcells, h1, h2, h3, h4]
  rw [this, List.set_getElem_self]
/-- The data of an entry is another, its cells are as before. -/
theorem OwnQ.turn {w : World} {base : Nat} {v : Value} {l : List Pt} {k : Nat} {q : Pk} (h : OwnQ w base v l) (hk : k < l.length) (h1 : q.src = l[k].pk.src) (h2 : q.id = l[k].pk.id) (h3 : q.cnt = l[k].pk.cnt) (h4 : q.since = l[k].pk.since) :
    OwnQ w base v (l.set k ⟨q, l[k].vh, l[k].vd⟩) := by
  rcases h with h | ⟨h8, g, cap, pre, hv, hc, h, hs⟩
  · refine .inl ?_
    unfold OwnP at *
    rw [List.length_set, pcells_set l k q hk h1 h2 h3 h4]; exact h
  · refine .inr ⟨by rw [List.length_set]; exact h8, g, cap, pre, hv, hc, ?_, hs⟩
    unfold OwnP at *
    rw [List.length_append, List.flatMap_append] at h ⊢
    rw [List.length_set, pcells_set l k q hk h1 h2 h3 h4]; exact h
theorem setOwnT {w : World} {base g n c i : Nat} {l : List Bool} (h : OwnT w base (.slice (some ⟨g, 0, none⟩) n c) l) (x : Bool) : OwnT (w.setCell ⟨g, i, none⟩ (.bool x)) base (.slice (some ⟨g, 0, none⟩) n c) (l.set i x) := by
  have hn : n = l.length := by
    rcases h.2 with ⟨hv, _⟩ | ⟨g', cap', cur, hv, _⟩
    · simp at hv
    · simp at hv; exact hv.2.1
  subst hn
  have := (World.ownsRow.stored h i (.bool x)).1
  unfold OwnT
  rw [List.length_set, List.map_set]; exact this
theorem setOwnS {w : World} {base g n c i : Nat} {l : List ByteArray} (h : OwnS w base (.slice (some ⟨g, 0, none⟩) n c) l) (x : ByteArray) : OwnS (w.setCell ⟨g, i, none⟩ (.string x)) base (.slice (some ⟨g, 0, none⟩) n c) (l.set i x) := by
  have hn : n = l.length := by
    rcases h.2 with ⟨hv, _⟩ | ⟨g', cap', cur, hv, _⟩
    · simp at hv
    · simp at hv; exact hv.2.1
  subst hn
  have := (World.ownsRow.stored h i (.string x)).1
  unfold OwnS
  rw [List.length_set, List.map_set]; exact this
/-- An entry's two lists are written at one place. -/
theorem Ents.put {w : World} {base : Nat} {l : List Pt} {k i gh gd nh nd ch cd : Nat} (h : Ents w base l) (hk : k < l.length) (e1 : l[k].vh = .slice (some ⟨gh, 0, none⟩) nh ch) (e2 : l[k].vd = .slice (some ⟨gd, 0, none⟩) nd cd) (x : ByteArray) :
    Ents ((w.setCell ⟨gh, i, none⟩ (.bool true)).setCell ⟨gd, i, none⟩ (.string x)) base (l.set k ⟨{ l[k].pk with hv := l[k].pk.hv.set i true, dt := l[k].pk.dt.set i x }, l[k].vh, l[k].vd⟩) := by
  obtain ⟨hT, hS, n1, n2⟩ := h.1 l[k] (List.getElem_mem hk)
  rw [e1] at hT
  rw [e2] at hS
  have T1 : Tch gh w (w.setCell ⟨gh, i, none⟩ (.bool true)) := (Tch.refl _ _).setCell i _
  have T2 : Tch gd (w.setCell ⟨gh, i, none⟩ (.bool true)) ((w.setCell ⟨gh, i, none⟩ (.bool true)).setCell ⟨gd, i, none⟩ (.string x)) := (Tch.refl _ _).setCell i _
  have hS1 : OwnS (w.setCell ⟨gh, i, none⟩ (.bool true)) base (.slice (some ⟨gd, 0, none⟩) nd cd) l[k].pk.dt := World.ownsRow.kept hS T1 (st_ne hS hT).2
  have hT1 := setOwnT (i := i) hT true
  have hS2 := setOwnS (i := i) hS1 x
  have hT2 : OwnT ((w.setCell ⟨gh, i, none⟩ (.bool true)).setCell ⟨gd, i, none⟩ (.string x)) base (.slice (some ⟨gh, 0, none⟩) nh ch) (l[k].pk.hv.set i true) := World.ownsRow.kept hT1 T2 (st_ne hS1 hT1).1
  have hne1 : ∀ {m : List Bool}, m ≠ [] → m.set i true ≠ [] := fun h e => h (by simpa using e)
  have hne2 : ∀ {m : List ByteArray}, m ≠ [] → m.set i x ≠ [] := fun h e => h (by simpa using e)
  refine ⟨fun p hp => ?_, ?_⟩
  · obtain ⟨j, hj, rfl⟩ := List.getElem_of_mem hp
    rw [List.length_set] at hj
    rw [List.getElem_set]
    by_cases e : k = j
    · rw [if_pos e]
      refine ⟨?_, ?_, hne1 n1, hne2 n2⟩
      · show OwnT _ base l[k].vh _
        rw [e1]; exact hT2
      · show OwnS _ base l[k].vd _
        rw [e2]; exact hS2
    · rw [if_neg e]
      obtain ⟨a1, a2, m1, m2⟩ := h.1 l[j] (List.getElem_mem hj)
      have hap : l[j].vh.ownBlock ≠ some gh ∧ l[j].vd.ownBlock ≠ some gd := by
        have hp := List.pairwise_iff_getElem.1 h.2
        rcases Nat.lt_or_gt_of_ne e with hlt | hlt
        · obtain ⟨b1, b2⟩ := hp k j hk hj hlt
          rw [e1] at b1; rw [e2] at b2
          exact ⟨fun h => b1 h.symm, fun h => b2 h.symm⟩
        · obtain ⟨b1, b2⟩ := hp j k hj hk hlt
          rw [e1] at b1; rw [e2] at b2
          exact ⟨b1, b2⟩
      have b1 : OwnT (w.setCell ⟨gh, i, none⟩ (.bool true)) base l[j].vh l[j].pk.hv := World.ownsRow.kept a1 T1 (.inr hap.1)
      have b2 : OwnS (w.setCell ⟨gh, i, none⟩ (.bool true)) base l[j].vd l[j].pk.dt := World.ownsRow.kept a2 T1 (st_ne a2 hT).2
      exact ⟨World.ownsRow.kept b1 T2 (st_ne hS1 b1).1, World.ownsRow.kept b2 T2 (.inr hap.2), m1, m2⟩
  · refine List.pairwise_iff_getElem.2 fun a b ha hb hlt => ?_
    rw [List.length_set] at ha hb
    have hp := List.pairwise_iff_getElem.1 h.2 a b ha hb hlt
    have hg : ∀ j (hj : j < l.length), ((l.set k ⟨{ l[k].pk with hv := l[k].pk.hv.set i true, dt := l[k].pk.dt.set i x }, l[k].vh, l[k].vd⟩)[j]'(by rw [List.length_set]; exact hj)).vh = l[j].vh ∧ ((l.set k ⟨{ l[k].pk with hv := l[k].pk.hv.set i true, dt := l[k].pk.dt.set i x }, l[k].vh, l[k].vd⟩)[j]'(by rw [List.length_set]; exact hj)).vd = l[j].vd := fun j hj => by
      rw [List.getElem_set]
      by_cases e : k = j
      · subst e; rw [if_pos rfl]; exact ⟨rfl, rfl⟩
      · rw [if_neg e]; exact ⟨rfl, rfl⟩
    unfold Apart
    rw [(hg a ha).1, (hg b hb).1, (hg a ha).2, (hg b hb).2]; exact hp
theorem orderStep_valid {o : List Pk} {p : Pk} (h : ∀ q ∈ o, validF q = true) : ∀ q ∈ orderStep o p, validF q = true := by
  unfold orderStep
  split
  · rename_i hv
    intro q hq
    rcases List.mem_append.1 hq with hq | hq
    · exact h q hq
    · rw [List.mem_singleton.1 hq]; exact hv.1
  · exact h
theorem orderAll_valid (l : List Pk) : ∀ q ∈ orderAll l, validF q = true := by
  unfold orderAll
  have : ∀ (l o : List Pk), (∀ q ∈ o, validF q = true) → ∀ q ∈ l.foldl orderStep o, validF q = true := by
    intro l
    induction l with
    | nil => intro o h; exact h
    | cons a l ih => intro o h; exact ih _ (orderStep_valid h)
  exact this l [] (fun q hq => by simp at hq)
theorem orderF_valid (l : List Pk) : ∀ q ∈ orderF l, validF q = true := fun q hq => orderAll_valid l q (List.mem_of_mem_drop hq)
theorem orderF_len (l : List Pk) : (orderF l).length ≤ 8 := by unfold orderF; rw [List.length_drop]; omega
theorem findF_range {l : List Pk} {s i : Int} (h : ¬ findF l s i < 0) : ∃ k : Nat, findF l s i = (k : Int) ∧ ∃ hk : k < l.length, l[k].src = s ∧ l[k].id = i := by
  unfold findF at *
  cases e : l.findIdx? (keyIs s i) with
  | none => rw [e] at h; simp at h
  | some k =>
    rw [List.findIdx?_eq_some_iff_getElem] at e
    obtain ⟨hk, hp, _⟩ := e
    refine ⟨k, rfl, hk, ?_⟩
    unfold keyIs at hp
    simpa using hp
theorem fits_le {i c n : Int} (h : fitsF i c n = true) : n ≤ 64 := by
  unfold fitsF at h
  split at h
  · split at h
    · simpa using h
    · split at h
      · simp at h; omega
      · simp at h; omega
  · simp at h; omega
theorem validF_dt {p : Pk} (h : validF p = true) : ∀ x ∈ p.dt, x.size ≤ 64 := by
  obtain ⟨n, n1, n2, n3, n4, n5⟩ := validF_len h
  unfold validF at h
  simp only [Bool.and_eq_true, decide_eq_true_eq] at h
  obtain ⟨⟨⟨_, hb⟩, _⟩, _⟩ := h
  intro x hx
  obtain ⟨j, hj, rfl⟩ := List.getElem_of_mem hx
  have hb := hb j (by omega)
  rw [List.getD_eq_getElem?_getD, List.getD_eq_getElem?_getD, List.getElem?_eq_getElem hj, List.getElem?_eq_getElem (show j < p.hv.length by omega)] at hb
  simp only [Option.getD_some] at hb
  unfold entOk at hb
  split at hb
  · have := fits_le hb; omega
  · simp only [decide_eq_true_eq] at hb; omega
theorem flat_len (l : List ByteArray) (m : Nat) (h : ∀ x ∈ l, x.size ≤ m) : (l.flatMap bl).length ≤ l.length * m := by
  induction l with
  | nil => simp
  | cons a l ih =>
    rw [List.flatMap_cons, List.length_append, List.length_cons, size_bl]
    have h1 := h a (by simp)
    have h2 := ih (fun x hx => h x (by simp [hx]))
    rw [Nat.add_mul]; omega
theorem chkF_zero {s : ByteArray} (h : chkF s = 0) : 3 ≤ s.size ∧ 1 ≤ byI s 2 ∧ byI s 2 ≤ 16 ∧ byI s 1 < byI s 2 ∧ fitsF (byI s 1) (byI s 2) ((s.size : Int) - 3) = true := by
  unfold chkF at h
  split at h
  · exact absurd h (by decide)
  · split at h
    · exact absurd h (by decide)
    · rename_i h1 h2
      have h3 : ¬ byI s 2 < 1 := fun e => h2 (.inl e)
      have h4 : ¬ 16 < byI s 2 := fun e => h2 (.inr (.inl e))
      have h5 : ¬ byI s 2 ≤ byI s 1 := fun e => h2 (.inr (.inr (.inl e)))
      refine ⟨by omega, by omega, by omega, by omega, ?_⟩
      cases e : fitsF (byI s 1) (byI s 2) ((s.size : Int) - 3) with
      | true => rfl
      | false => exact absurd (.inr (.inr (.inr e))) h2
end Hub
end Go.Proofs.Ytmjamjadfnbkdaa
