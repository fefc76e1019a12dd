/-
  Fragments: a new entry is made behind a list of the call's own.
-/
import Derived.Test.YtmjamjadfnbkdaaFse
open Go Go.RowKit Go.Proofs
namespace Go.Proofs.Ytmjamjadfnbkdaa
namespace Hub
def bObj (cc : Nat) : Obj := .cells (Array.replicate cc (Value.bool false)) 4
def sObj (cc : Nat) : Obj := .cells (Array.replicate cc (Value.string ByteArray.empty)) 9
def pObj (p : Pt) : Obj := .cells #[.int .i64 p.pk.src, .int .i64 p.pk.id, .int .i64 p.pk.cnt, .int .i64 p.pk.since, p.vh, p.vd] 44
theorem bObj_row (W : World) (cc : Nat) : RowAt (W.alloc (bObj cc)) W.heap.size 4 ((List.replicate cc false).map Value.bool) := by
  have h := RowAt.fresh W (List.replicate cc (Value.bool false)) 4
  rw [show (List.replicate cc (Value.bool false)).toArray = Array.replicate cc (Value.bool false) by simp] at h
  rw [show (List.replicate cc false).map Value.bool = List.replicate cc (Value.bool false) from List.map_replicate]
  exact h
theorem sObj_row (W : World) (cc : Nat) : RowAt (W.alloc (sObj cc)) W.heap.size 9 ((List.replicate cc ByteArray.empty).map Value.string) := by
  have h := RowAt.fresh W (List.replicate cc (Value.string ByteArray.empty)) 9
  rw [show (List.replicate cc (Value.string ByteArray.empty)).toArray = Array.replicate cc (Value.string ByteArray.empty) by simp] at h
  rw [show (List.replicate cc ByteArray.empty).map Value.string = List.replicate cc (Value.string ByteArray.empty) from List.map_replicate]
  exact h
/-- What is known ahead of the append. -/
structure Ready (w X : World) (B : Nat) (u : Value) (m : List Pt) (p : Pt) (g : Nat) : Prop where
  own : OwnP X B u m
  ents : Ents X B (m ++ [p])
  below : Below w.heap.size w X
  news : ∀ j u, (pcells p)[j]? = some u → X.cell? ((⟨g, 0, none⟩ : Addr).add j) = some u
  one : ∀ u ∈ pcells p, u.oneCell' = true
  base : B ≤ X.heap.size
theorem Ready.drew {w X : World} {B : Nat} {u : Value} {m : List Pt} {p : Pt} {g : Nat} (h : Ready w X B u m p g) : Ready w X.drew B u m p g :=
  ⟨h.own, ⟨fun q hq => h.ents.1 q hq, h.ents.2⟩, Below.drew' h.below, h.news, h.one, h.base⟩
theorem ready_of {w Y W X : World} {B cc : Nat} {u : Value} {m : List Pt} {q : Pk} {gh gd : Nat} (hv : q.hv = List.replicate cc false) (hd : q.dt = List.replicate cc ByteArray.empty) (hcc : 0 < cc) (hml : cc ≤ maxLen) (hP : OwnP Y B u m) (hE : Ents Y B m) (hB : B ≤ Y.heap.size) (hK : Below w.heap.size w Y)
    (hW : Below Y.heap.size Y W) (hb : RowAt W gh 4 ((List.replicate cc false).map Value.bool)) (hs : RowAt W gd 9 ((List.replicate cc ByteArray.empty).map Value.string)) (lh : Y.heap.size ≤ gh) (ld : Y.heap.size ≤ gd)
    (hX : X = W.alloc (pObj ⟨q, .slice (some ⟨gh, 0, none⟩) cc cc, .slice (some ⟨gd, 0, none⟩) cc cc⟩)) :
    Ready w X B u m ⟨q, .slice (some ⟨gh, 0, none⟩) cc cc, .slice (some ⟨gd, 0, none⟩) cc cc⟩ W.heap.size := by
  have kX : Below W.heap.size W X := by rw [hX]; exact below_box _ _
  have hEnt : Ent W Y.heap.size ⟨q, .slice (some ⟨gh, 0, none⟩) cc cc, .slice (some ⟨gd, 0, none⟩) cc cc⟩ := by
    refine ⟨?_, ?_, ?_, ?_⟩
    · show OwnT W Y.heap.size _ q.hv
      rw [hv]; exact hb.ownT (by simp) lh hml
    · show OwnS W Y.heap.size _ q.dt
      rw [hd]; exact hs.ownS (by simp) ld hml
    · show q.hv ≠ []
      rw [hv]; intro e; have := congrArg List.length e; simp at this; omega
    · show q.dt ≠ []
      rw [hd]; intro e; have := congrArg List.length e; simp at this; omega
  have hE1 := hE.snoc hW hEnt hB
  refine ⟨(hP.below hW (Nat.le_refl _)).below kX (Nat.le_refl _), hE1.below kX (Nat.le_refl _), bt (bt hK hW) kX, ?_, one6 _ hEnt.shp, Nat.le_trans hB (Nat.le_trans hW.size kX.size)⟩
  rw [hX]; exact news6 W _ _ _ rfl
theorem ready1 {w Y : World} {B cc : Nat} {u : Value} {m : List Pt} {q : Pk} (hv : q.hv = List.replicate cc false) (hd : q.dt = List.replicate cc ByteArray.empty) (hcc : 0 < cc) (hml : cc ≤ maxLen) (hP : OwnP Y B u m) (hE : Ents Y B m) (hB : B ≤ Y.heap.size) (hK : Below w.heap.size w Y) :
    Ready w (((Y.alloc (bObj cc)).alloc (sObj cc)).alloc (pObj ⟨q, .slice (some ⟨Y.heap.size, 0, none⟩) cc cc, .slice (some ⟨Y.heap.size + 1, 0, none⟩) cc cc⟩)) B u m ⟨q, .slice (some ⟨Y.heap.size, 0, none⟩) cc cc, .slice (some ⟨Y.heap.size + 1, 0, none⟩) cc cc⟩ (Y.heap.size + 1 + 1) := by
  have e1 : (Y.alloc (bObj cc)).heap.size = Y.heap.size + 1 := World.size_alloc ..
  have e2 : ((Y.alloc (bObj cc)).alloc (sObj cc)).heap.size = Y.heap.size + 1 + 1 := by rw [World.size_alloc, e1]
  have h := ready_of (w := w) (W := (Y.alloc (bObj cc)).alloc (sObj cc)) (gh := Y.heap.size) (gd := Y.heap.size + 1) hv hd hcc hml hP hE hB hK (bt (below_box _ _) (below_box _ _))
    ((bObj_row Y cc).below (below_box _ (sObj cc)) (by rw [e1]; omega)) (by rw [← e1]; exact sObj_row _ cc) (Nat.le_refl _) (Nat.le_succ _) rfl
  rw [e2] at h; exact h
theorem ready2 {w Y : World} {B cc : Nat} {u : Value} {m : List Pt} {q : Pk} (hv : q.hv = List.replicate cc false) (hd : q.dt = List.replicate cc ByteArray.empty) (hcc : 0 < cc) (hml : cc ≤ maxLen) (hP : OwnP Y B u m) (hE : Ents Y B m) (hB : B ≤ Y.heap.size) (hK : Below w.heap.size w Y) :
    Ready w (((Y.alloc (sObj cc)).alloc (bObj cc)).alloc (pObj ⟨q, .slice (some ⟨Y.heap.size + 1, 0, none⟩) cc cc, .slice (some ⟨Y.heap.size, 0, none⟩) cc cc⟩)) B u m ⟨q, .slice (some ⟨Y.heap.size + 1, 0, none⟩) cc cc, .slice (some ⟨Y.heap.size, 0, none⟩) cc cc⟩ (Y.heap.size + 1 + 1) := by
  have e1 : (Y.alloc (sObj cc)).heap.size = Y.heap.size + 1 := World.size_alloc ..
  have e2 : ((Y.alloc (sObj cc)).alloc (bObj cc)).heap.size = Y.heap.size + 1 + 1 := by rw [World.size_alloc, e1]
  have h := ready_of (w := w) (W := (Y.alloc (sObj cc)).alloc (bObj cc)) (gh := Y.heap.size + 1) (gd := Y.heap.size) hv hd hcc hml hP hE hB hK (bt (below_box _ _) (below_box _ _))
    (by rw [← e1]; exact bObj_row _ cc) ((sObj_row Y cc).below (below_box _ (bObj cc)) (by rw [e1]; omega)) (Nat.le_succ _) (Nat.le_refl _) rfl
  rw [e2] at h; exact h
/-- Behind the append. -/
theorem Ready.done {w X X' : World} {B n : Nat} {u v' : Value} {m : List Pt} {p : Pt} {g : Nat} (h : Ready w X B u m p g) (hn : m.length = n) (hown : X'.ownsRow B 44 6 v' (n + 1) (m.flatMap pcells ++ pcells p)) (hgr : X.grownBy X' u.ownBlock) (hB : w.heap.size ≤ B) :
    OwnQ X' B v' (m ++ [p]) ∧ Ents X' B (m ++ [p]) ∧ Below w.heap.size w X' := by
  refine ⟨.inl ?_, h.ents.grown h.own hgr, h.below.grown hgr h.below.size (fun g hg => Nat.le_trans hB (World.ownsRow.lt h.own g hg).1)⟩
  unfold OwnP
  rw [List.length_append, hn, List.flatMap_append, List.flatMap_cons, List.flatMap_nil, List.append_nil]; exact hown
end Hub
end Go.Proofs.Ytmjamjadfnbkdaa
