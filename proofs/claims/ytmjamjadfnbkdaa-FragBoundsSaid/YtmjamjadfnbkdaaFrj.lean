/-
  Fragments: lists of entries of the call's own, whose lists are apart.
-/
import Derived.Test.YtmjamjadfnbkdaaFri
open Go Go.RowKit Go.Proofs
namespace Go.Proofs.Ytmjamjadfnbkdaa
namespace Hub
theorem pcells_at (l : List Pt) : ∀ (i j : Nat) (hi : i < l.length), j < 6 → (l.flatMap pcells)[i * 6 + j]? = (pcells l[i])[j]? := by
  induction l with
  | nil => intro i j hi; simp at hi
  | cons f l ih =>
    intro i j hi hj
    rw [List.flatMap_cons]
    cases i with
    | zero => rw [Nat.zero_mul, Nat.zero_add, List.getElem?_append_left (by simpa [pcells] using hj)]; rfl
    | succ i =>
      rw [List.getElem?_append_right (by simp [pcells]; omega)]
      have e : (i + 1) * 6 + j - (pcells f).length = i * 6 + j := by simp [pcells]; omega
      rw [e, ih i j (by simpa using hi) hj]; rfl
theorem pcells_len (l : List Pt) : (l.flatMap pcells).length = l.length * 6 := by
  induction l with
  | nil => rfl
  | cons f l ih => rw [List.flatMap_cons, List.length_append, ih, List.length_cons]; simp [pcells]; omega
/-- v is a slice of the call's own, from block 'base' on (or nil), that holds the entries l. -/
def OwnP (w : World) (base : Nat) (v : Value) (l : List Pt) : Prop := w.ownsRow base 44 6 v l.length (l.flatMap pcells)
theorem OwnP.nil (w : World) (base : Nat) : OwnP w base (.slice none 0 0) [] := World.ownsRow_nil w base _ _
theorem OwnP.alloc {w : World} {base : Nat} {v : Value} {l : List Pt} (h : OwnP w base v l) (o : Obj) : OwnP (w.alloc o) base v l := World.ownsRow.alloc h o
theorem OwnP.drew {w : World} {base : Nat} {v : Value} {l : List Pt} (h : OwnP w base v l) : OwnP w.drew base v l := h
theorem OwnP.below {w w' : World} {base N : Nat} {v : Value} {l : List Pt} (h : OwnP w base v l) (hb : Below N w w') (hN : w.heap.size ≤ N) : OwnP w' base v l := by
  refine World.ownsRow.kept (row := none) h ⟨hb.os, hb.tape, hb.output, hb.size, fun k hk _ => hb.block k (by omega)⟩ ?_
  cases hv : v.ownBlock with
  | none => exact .inl rfl
  | some k => exact .inr (by simp)
theorem OwnP.base {w : World} {b c : Nat} {v : Value} {l : List Pt} (h : OwnP w c v l) (hb : b ≤ c) : OwnP w b v l :=
  ⟨h.1, h.2.imp id fun ⟨g, cap, cur, hv, hg, r⟩ => ⟨g, cap, cur, hv, Nat.le_trans hb hg, r⟩⟩
theorem OwnP.shape {w : World} {base : Nat} {v : Value} {l : List Pt} (h : OwnP w base v l) : (v = .slice none 0 0 ∧ l.length = 0) ∨ ∃ g cap, v = .slice (some ⟨g, 0, none⟩) l.length cap ∧ base ≤ g ∧ g < w.heap.size ∧ l.length ≤ cap := by
  rcases h.2 with ⟨hv, h0⟩ | ⟨g, cap, cur, hv, hb, hg, hcap, _⟩
  · exact .inl ⟨hv, h0⟩
  · exact .inr ⟨g, cap, hv, hb, (Array.getElem?_eq_some_iff.1 hg).1, hcap⟩
theorem OwnP.six {w : World} {base g cap n : Nat} {l : List Pt} (h : OwnP w base (.slice (some ⟨g, 0, none⟩) n cap) l) (hs : ∀ p ∈ l, Shp p) (i : Nat) (hi : i < l.length) : SixAt w g (i * 6) l[i] := by
  have hn : n = l.length := by
    rcases h.2 with ⟨hv, _⟩ | ⟨g', cap', cur, hv, _⟩
    · simp at hv
    · simp at hv; exact hv.2.1
  subst hn
  have c (j : Nat) (hj : j < 6) : w.cell? ⟨g, i * 6 + j, none⟩ = (pcells l[i])[j]? := by
    rw [World.ownsRow.cellAt h (i * 6 + j) (by omega), pcells_at l i j hi hj]
  exact ⟨hs _ (List.getElem_mem hi), (c 0 (by decide)).trans rfl, (c 1 (by decide)).trans rfl, (c 2 (by decide)).trans rfl, (c 3 (by decide)).trans rfl, (c 4 (by decide)).trans rfl, (c 5 (by decide)).trans rfl⟩
theorem OwnP.rows {w : World} {base : Nat} {v : Value} {l : List Pt} (h : OwnP w base v l) (hs : ∀ p ∈ l, Shp p) : RowsAt base w.heap.size w v l := by
  rcases h.shape with ⟨rfl, h0⟩ | ⟨g, cap, rfl, hb, hg, hcap⟩
  · have : l = [] := List.length_eq_zero_iff.1 h0
    subst this
    exact RowsAt.nil _ _ _
  · exact ⟨some ⟨g, 0, none⟩, cap, rfl, hcap, fun _ => ⟨g, 0, rfl, hb, hg, fun i hi => by rw [Nat.zero_add]; exact h.six hs i hi⟩⟩
/-- A list of the call's own, or the last eight of one. -/
def OwnQ (w : World) (base : Nat) (v : Value) (l : List Pt) : Prop :=
  OwnP w base v l ∨ (l.length = 8 ∧ ∃ g cap pre, v = .slice (some ⟨g, pre.length * 6, none⟩) 8 (cap - pre.length) ∧ pre.length + 8 ≤ cap ∧ OwnP w base (.slice (some ⟨g, 0, none⟩) (pre.length + 8) cap) (pre ++ l) ∧ ∀ p ∈ pre, Shp p)
theorem OwnQ.below {w w' : World} {base N : Nat} {v : Value} {l : List Pt} (h : OwnQ w base v l) (hb : Below N w w') (hN : w.heap.size ≤ N) : OwnQ w' base v l := by
  rcases h with h | ⟨h8, g, cap, pre, hv, hc, h, hs⟩
  · exact .inl (h.below hb hN)
  · exact .inr ⟨h8, g, cap, pre, hv, hc, h.below hb hN, hs⟩
theorem OwnQ.rows {w : World} {base : Nat} {v : Value} {l : List Pt} (h : OwnQ w base v l) (hs : ∀ p ∈ l, Shp p) : RowsAt base w.heap.size w v l := by
  rcases h with h | ⟨h8, g, cap, pre, rfl, hc, h, hsp⟩
  · exact h.rows hs
  · have hgs : base ≤ g ∧ g < w.heap.size := World.ownsRow.lt h g rfl
    refine ⟨some ⟨g, pre.length * 6, none⟩, cap - pre.length, by rw [h8], by omega, fun _ => ⟨g, pre.length * 6, rfl, hgs.1, hgs.2, fun i hi => ?_⟩⟩
    have := h.six (fun p hp => (List.mem_append.1 hp).elim (hsp p) (hs p)) (pre.length + i) (by rw [List.length_append]; omega)
    rw [List.getElem_append_right (by omega), Nat.add_mul] at this
    simpa using this
/-- Two blocks of other types are apart. -/
theorem pt_ne {w : World} {base base' : Nat} {v u : Value} {l : List Pt} {m : List Bool} (h : OwnP w base v l) (k : OwnT w base' u m) : (u.ownBlock = none ∨ u.ownBlock ≠ v.ownBlock) ∧ (v.ownBlock = none ∨ v.ownBlock ≠ u.ownBlock) := by
  rcases h.2 with ⟨rfl, _⟩ | ⟨g, cap, cur, rfl, hb, hg, _⟩
  · refine ⟨?_, .inl rfl⟩
    cases h : u.ownBlock with
    | none => exact .inl rfl
    | some b => exact .inr (by simp [Value.ownBlock])
  · rcases k.2 with ⟨rfl, _⟩ | ⟨g', cap', cur', rfl, hb', hg', _⟩
    · exact ⟨.inl rfl, .inr (by simp [Value.ownBlock])⟩
    · have hne : g ≠ g' := fun e => by
        subst e
        rw [hg] at hg'
        simp at hg'
      exact ⟨.inr (by simp [Value.ownBlock]; omega), .inr (by simp [Value.ownBlock]; omega)⟩
theorem ps_ne {w : World} {base base' : Nat} {v u : Value} {l : List Pt} {m : List ByteArray} (h : OwnP w base v l) (k : OwnS w base' u m) : (u.ownBlock = none ∨ u.ownBlock ≠ v.ownBlock) ∧ (v.ownBlock = none ∨ v.ownBlock ≠ u.ownBlock) := by
  rcases h.2 with ⟨rfl, _⟩ | ⟨g, cap, cur, rfl, hb, hg, _⟩
  · refine ⟨?_, .inl rfl⟩
    cases h : u.ownBlock with
    | none => exact .inl rfl
    | some b => exact .inr (by simp [Value.ownBlock])
  · rcases k.2 with ⟨rfl, _⟩ | ⟨g', cap', cur', rfl, hb', hg', _⟩
    · exact ⟨.inl rfl, .inr (by simp [Value.ownBlock])⟩
    · have hne : g ≠ g' := fun e => by
        subst e
        rw [hg] at hg'
        simp at hg'
      exact ⟨.inr (by simp [Value.ownBlock]; omega), .inr (by simp [Value.ownBlock]; omega)⟩
theorem st_ne {w : World} {base base' : Nat} {v u : Value} {l : List ByteArray} {m : List Bool} (h : OwnS w base v l) (k : OwnT w base' u m) : (u.ownBlock = none ∨ u.ownBlock ≠ v.ownBlock) ∧ (v.ownBlock = none ∨ v.ownBlock ≠ u.ownBlock) := by
  rcases h.2 with ⟨rfl, _⟩ | ⟨g, cap, cur, rfl, hb, hg, _⟩
  · refine ⟨?_, .inl rfl⟩
    cases h : u.ownBlock with
    | none => exact .inl rfl
    | some b => exact .inr (by simp [Value.ownBlock])
  · rcases k.2 with ⟨rfl, _⟩ | ⟨g', cap', cur', rfl, hb', hg', _⟩
    · exact ⟨.inl rfl, .inr (by simp [Value.ownBlock])⟩
    · have hne : g ≠ g' := fun e => by
        subst e
        rw [hg] at hg'
        simp at hg'
      exact ⟨.inr (by simp [Value.ownBlock]; omega), .inr (by simp [Value.ownBlock]; omega)⟩
/-- One entry's two lists are the call's own. -/
def Ent (w : World) (base : Nat) (p : Pt) : Prop := OwnT w base p.vh p.pk.hv ∧ OwnS w base p.vd p.pk.dt ∧ p.pk.hv ≠ [] ∧ p.pk.dt ≠ []
def Apart (p q : Pt) : Prop := p.vh.ownBlock ≠ q.vh.ownBlock ∧ p.vd.ownBlock ≠ q.vd.ownBlock
def Ents (w : World) (base : Nat) (l : List Pt) : Prop := (∀ p ∈ l, Ent w base p) ∧ l.Pairwise Apart
theorem Ent.shp {w : World} {base : Nat} {p : Pt} (h : Ent w base p) : Shp p := by
  obtain ⟨h1, h2, _⟩ := h
  obtain ⟨a, c, e, _⟩ := h1.shape
  obtain ⟨b, d, f, _⟩ := h2.shape
  exact ⟨⟨_, _, _, e⟩, _, _, _, f⟩
theorem Ent.below {w w' : World} {base N : Nat} {p : Pt} (h : Ent w base p) (hb : Below N w w') (hN : w.heap.size ≤ N) : Ent w' base p := ⟨h.1.below hb hN, h.2.1.below hb hN, h.2.2⟩
theorem Ent.base {w : World} {b c : Nat} {p : Pt} (h : Ent w c p) (hb : b ≤ c) : Ent w b p := ⟨h.1.base hb, h.2.1.base hb, h.2.2⟩
theorem Ent.grown {w w' : World} {base base' : Nat} {v : Value} {l : List Pt} {p : Pt} (h : Ent w base p) (k : OwnP w base' v l) (hg : w.grownBy w' v.ownBlock) : Ent w' base p :=
  ⟨World.ownsRow.kept h.1 hg (pt_ne k h.1).1, World.ownsRow.kept h.2.1 hg (ps_ne k h.2.1).1, h.2.2⟩
theorem Ents.nil (w : World) (base : Nat) : Ents w base [] := ⟨fun p hp => by simp at hp, List.Pairwise.nil⟩
theorem Ents.shp {w : World} {base : Nat} {l : List Pt} (h : Ents w base l) : ∀ p ∈ l, Shp p := fun p hp => (h.1 p hp).shp
theorem Ents.dat {w : World} {base : Nat} {l : List Pt} (h : Ents w base l) : DatAt base w.heap.size w l := fun p hp => ⟨(h.1 p hp).1.bools, (h.1 p hp).2.1.strs⟩
theorem Ents.below {w w' : World} {base N : Nat} {l : List Pt} (h : Ents w base l) (hb : Below N w w') (hN : w.heap.size ≤ N) : Ents w' base l := ⟨fun p hp => (h.1 p hp).below hb hN, h.2⟩
theorem Ents.base {w : World} {b c : Nat} {l : List Pt} (h : Ents w c l) (hb : b ≤ c) : Ents w b l := ⟨fun p hp => (h.1 p hp).base hb, h.2⟩
theorem Ents.grown {w w' : World} {base base' : Nat} {v : Value} {l m : List Pt} (h : Ents w base l) (k : OwnP w base' v m) (hg : w.grownBy w' v.ownBlock) : Ents w' base l := ⟨fun p hp => (h.1 p hp).grown k hg, h.2⟩
theorem Ents.sub {w : World} {base : Nat} {l m : List Pt} (h : Ents w base l) (hs : m.Sublist l) : Ents w base m := ⟨fun p hp => h.1 p (hs.subset hp), h.2.sublist hs⟩
theorem own_old {w : World} {base : Nat} {v : Value} {e : TypeId} {z n : Nat} {xs : List Value} (h : w.ownsRow base e z v n xs) (b : Nat) (hb : v.ownBlock = some b) : b < w.heap.size := (World.ownsRow.lt h b hb).2
theorem OwnT.block {w : World} {base : Nat} {v : Value} {l : List Bool} (h : OwnT w base v l) (hne : l ≠ []) : ∃ b, v.ownBlock = some b ∧ base ≤ b ∧ b < w.heap.size := by
  rcases h.2 with ⟨_, h0⟩ | ⟨g, cap, cur, rfl, hb, hg, _⟩
  · exact absurd (List.length_eq_zero_iff.1 h0) hne
  · exact ⟨g, rfl, hb, (Array.getElem?_eq_some_iff.1 hg).1⟩
theorem OwnS.block {w : World} {base : Nat} {v : Value} {l : List ByteArray} (h : OwnS w base v l) (hne : l ≠ []) : ∃ b, v.ownBlock = some b ∧ base ≤ b ∧ b < w.heap.size := by
  rcases h.2 with ⟨_, h0⟩ | ⟨g, cap, cur, rfl, hb, hg, _⟩
  · exact absurd (List.length_eq_zero_iff.1 h0) hne
  · exact ⟨g, rfl, hb, (Array.getElem?_eq_some_iff.1 hg).1⟩
/-- A new entry, made behind a list, is apart from it. -/
theorem Ents.snoc {w w' : World} {base : Nat} {l : List Pt} {q : Pt} (h : Ents w base l) (hb : Below w.heap.size w w') (hq : Ent w' w.heap.size q) (hB : base ≤ w.heap.size) : Ents w' base (l ++ [q]) := by
  refine ⟨fun p hp => ?_, ?_⟩
  · rcases List.mem_append.1 hp with hp | hp
    · exact (h.1 p hp).below hb (Nat.le_refl _)
    · rw [List.mem_singleton.1 hp]; exact hq.base hB
  · rw [List.pairwise_append]
    refine ⟨h.2, List.pairwise_singleton _ _, fun p hp r hr => ?_⟩
    rw [List.mem_singleton.1 hr]
    obtain ⟨h1, h2, n1, n2⟩ := h.1 p hp
    obtain ⟨q1, q2, m1, m2⟩ := hq
    obtain ⟨b1, e1, _, l1⟩ := h1.block n1
    obtain ⟨b2, e2, _, l2⟩ := h2.block n2
    obtain ⟨c1, f1, g1, _⟩ := q1.block m1
    obtain ⟨c2, f2, g2, _⟩ := q2.block m2
    refine ⟨?_, ?_⟩
    · rw [e1, f1]; intro e; have e' := Option.some.inj e; omega
    · rw [e2, f2]; intro e; have e' := Option.some.inj e; omega
theorem news6 (w : World) (p : Pt) (T : TypeId) (k : Nat) (hk : k = w.heap.size) : ∀ j u, (pcells p)[j]? = some u → (w.alloc (.cells #[.int .i64 p.pk.src, .int .i64 p.pk.id, .int .i64 p.pk.cnt, .int .i64 p.pk.since, p.vh, p.vd] T)).cell? ((⟨k, 0, none⟩ : Addr).add j) = some u := by
  intro j u hj
  subst hk
  rw [add_off', Nat.zero_add]
  have hx := heap_alloc_new w (.cells #[.int .i64 p.pk.src, .int .i64 p.pk.id, .int .i64 p.pk.cnt, .int .i64 p.pk.since, p.vh, p.vd] T)
  rw [Lib.cell_of_heap hx]
  unfold pcells at hj
  simpa using hj
theorem one6 (p : Pt) (h : Shp p) : ∀ u ∈ pcells p, u.oneCell' = true := by
  obtain ⟨⟨a, n, c, e⟩, b, m, d, f⟩ := h
  intro u hu
  unfold pcells at hu
  rw [e, f] at hu
  simp at hu
  rcases hu with rfl | rfl | rfl | rfl | rfl | rfl <;> rfl
theorem validF_len {p : Pk} (h : validF p = true) : ∃ n : Nat, 2 ≤ n ∧ n ≤ 16 ∧ p.hv.length = n ∧ p.dt.length = n ∧ p.cnt = (n : Int) := by
  unfold validF at h
  simp only [Bool.and_eq_true] at h
  obtain ⟨⟨⟨h1, _⟩, _⟩, _⟩ := h
  unfold headOk at h1
  simp only [decide_eq_true_eq] at h1
  exact ⟨p.hv.length, by omega, by omega, rfl, by omega, by omega⟩
theorem orderAll_len (l : List Pk) : (orderAll l).length ≤ l.length := by
  unfold orderAll
  have : ∀ (l : List Pk) (o : List Pk), (l.foldl orderStep o).length ≤ o.length + l.length := by
    intro l
    induction l with
    | nil => intro o; simp
    | cons a l ih =>
      intro o
      rw [List.foldl_cons, List.length_cons]
      have h1 := ih (orderStep o a)
      have h2 : (orderStep o a).length ≤ o.length + 1 := by unfold orderStep; split <;> simp
      omega
  simpa using this l []
theorem orderAll_take (l : List Pk) (k : Nat) (h : k < l.length) : orderAll (l.take (k + 1)) = orderStep (orderAll (l.take k)) l[k] := by
  unfold orderAll
  rw [List.take_succ_eq_append_getElem h, List.foldl_append]; rfl
end Hub
end Go.Proofs.Ytmjamjadfnbkdaa
