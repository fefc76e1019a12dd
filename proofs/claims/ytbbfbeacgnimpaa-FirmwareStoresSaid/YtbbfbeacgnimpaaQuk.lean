/-
  A region that draws its order, in the worlds that leave what was there before: slots whose values are addresses of new memory are tracked.
-/
import Derived.Test.YtbbfbeacgnimpaaQuj
import Derived.Below
open Go Go.RowKit Go.Proofs
namespace Go.Proofs.Ytbbfbeacgnimpaa.Late
def track (L : List (Nat × (Value → World → Prop))) (d : Nat) (v : Value) (w : World) : Prop := ∀ F, (d, F) ∈ L → v = undef ∨ F v w
def LC (w0 w : World) : Prop := Below w0.heap.size w0 w
/-- What is tracked outlives what is made later. -/
def Lasts (L : List (Nat × (Value → World → Prop))) : Prop := ∀ d F, (d, F) ∈ L → ∀ v w w', F v w → Below w.heap.size w w' → F v w'
def free (L : List (Nat × (Value → World → Prop))) (dst : Option Tmp) : Bool := match dst with | some d => !(L.map (·.1)).contains d | none => true
section
variable {P : Program} {ops : Array Oper} {w0 : World} {L : List (Nat × (Value → World → Prop))} {o : Oper} {a : Act}
theorem gets_free {w : World} {u : Value} {dst : Option Tmp} (h : free L dst = true) : Gets (track L) dst u w := by
  intro d hd F hF
  subst hd
  simp only [free, Bool.not_eq_true', List.contains_eq_mem, decide_eq_false_iff_not, List.mem_map, not_exists, not_and] at h
  exact absurd rfl (h (d, F) hF)
theorem kept_of (hL : Lasts L) {w w' : World} (hC : LC w0 w) (hb : Below w.heap.size w w') : Kept (LC w0) (track L) w w' :=
  ⟨hC.trans (hb.mono hC.size), fun d v h F hF => (h F hF).imp id fun x => hL d F hF v w w' x hb⟩
theorem late_start {id : Nat} {Q : Exit → Act → World → Prop} {a : Act} {w : World} {l : List Oper} (L : List (Nat × (Value → World → Prop))) (Vs : List (Value → Prop)) (hm : P.follows .mixedOrders = true) (hB : Region.lexB .any l.toArray = true)
    (hI : ∀ d F, (d, F) ∈ L → a.eval (.tmp d) = undef)
    (h : wpL P l.toArray (LC w) (track L) (fun a' => ∀ w', LC w w' → (∀ d, track L d (a'.eval (.tmp d)) w') → Q .normal a' w') l Vs a) : (Code.region id l.toArray true).wp P Q a w :=
  wp_region_late (LC w) (track L) Vs hm hB (fun _ _ _ _ _ => .inl rfl) ⟨rfl, rfl, rfl, Nat.le_refl _, fun _ _ => rfl⟩ (fun d F hF => .inl (hI d F hF)) h
theorem late_want {C : World → Prop} {G : Nat → Value → World → Prop} {Q : Act → Prop} {rest : List Oper} {V : Value → Prop} {Vs : List (Value → Prop)} (hw : Region.wanted o (yielded ops a.tmps) = true)
    (h : ∀ K : Act → Prop, (∀ a, wpL P ops C G Q rest Vs a → K a) → Quiet P ops C G o a V ∧ ∀ v, V v → K (a.put o.dst v)) : wpL P ops C G Q (o :: rest) (V :: Vs) a := by
  obtain ⟨h1, h2⟩ := h _ (fun _ x => x)
  exact ⟨fun _ => h1, fun v hv => h2 v (by unfold Out at hv; rwa [if_pos hw] at hv)⟩
theorem late_skip {C : World → Prop} {G : Nat → Value → World → Prop} {Q : Act → Prop} {rest : List Oper} {V : Value → Prop} {Vs : List (Value → Prop)} (hw : Region.wanted o (yielded ops a.tmps) = false)
    (h : wpL P ops C G Q rest Vs (a.put o.dst undef)) : wpL P ops C G Q (o :: rest) (V :: Vs) a :=
  ⟨fun x => (by rw [hw] at x; cases x), fun v hv => by unfold Out at hv; rw [if_neg (by simp [hw])] at hv; subst hv; exact h⟩
theorem late_const (hL : Lasts L) (u : Value) (hd : free L o.dst = true) (h : ∀ w, Sees ops (LC w0) (track L) o a w → (execOp a.eval o).run P w = .ok (.value u) w) : Quiet P ops (LC w0) (track L) o a (· = u) :=
  ⟨⟨u, rfl⟩, fun w hs => by rw [h w hs]; exact ⟨kept_of hL hs.1 (Below.refl _ _), rfl, gets_free hd⟩⟩
theorem late_call (hL : Lasts L) (u : Value) (f : FuncId) (args : Array Value) (hd : free L o.dst = true) (h : ∀ w, Sees ops (LC w0) (track L) o a w → (execOp a.eval o).run P w = .ok (.enter f args) w)
    (hc : ∀ w, Sees ops (LC w0) (track L) o a w → Calls P f args w fun e w' => e = .returned u ∧ Below w.heap.size w w') : Quiet P ops (LC w0) (track L) o a (· = u) :=
  ⟨⟨u, rfl⟩, fun w hs => by rw [h w hs]; exact (hc w hs).mono fun e w' ⟨he, hb⟩ => ⟨u, he, rfl, kept_of hL hs.1 hb, gets_free hd⟩⟩
theorem late_nil {C : World → Prop} {G : Nat → Value → World → Prop} {Q : Act → Prop} {Vs : List (Value → Prop)} (h : Q a) : wpL P ops C G Q [] Vs a := h
/-- A call whose result is tracked. -/
theorem late_callT (hL : Lasts L) (V : Value → Prop) (F : Value → World → Prop) (f : FuncId) (args : Array Value) (hV : ∃ v, V v) (hF : ∀ d F', o.dst = some d → (d, F') ∈ L → F' = F) (h : ∀ w, Sees ops (LC w0) (track L) o a w → (execOp a.eval o).run P w = .ok (.enter f args) w)
    (hc : ∀ w, Sees ops (LC w0) (track L) o a w → Calls P f args w fun e w' => ∃ u, e = .returned u ∧ V u ∧ F u w' ∧ Below w.heap.size w w') : Quiet P ops (LC w0) (track L) o a V :=
  ⟨hV, fun w hs => by rw [h w hs]; exact (hc w hs).mono fun e w' ⟨u, he, hv, hf, hb⟩ => ⟨u, he, hv, kept_of hL hs.1 hb, fun d hd F' hF' => .inr (by rw [hF d F' hd hF']; exact hf)⟩⟩
/-- An operation that makes memory, whose result is tracked. -/
theorem late_makeT (hL : Lasts L) (V : Value → Prop) (F : Value → World → Prop) (hV : ∃ v, V v) (hF : ∀ d F', o.dst = some d → (d, F') ∈ L → F' = F)
    (h : ∀ w, Sees ops (LC w0) (track L) o a w → ∃ u w', (execOp a.eval o).run P w = .ok (.value u) w' ∧ V u ∧ F u w' ∧ Below w.heap.size w w') : Quiet P ops (LC w0) (track L) o a V :=
  ⟨hV, fun w hs => by obtain ⟨u, w', e, hv, hf, hb⟩ := h w hs; rw [e]; exact ⟨kept_of hL hs.1 hb, hv, fun d hd F' hF' => .inr (by rw [hF d F' hd hF']; exact hf)⟩⟩
/-- What is known of a tracked slot. -/
theorem late_use {w : World} (hs : Sees ops (LC w0) (track L) o a w) (d : Nat) (F : Value → World → Prop) (hd : (o.looksAt ops).contains d = true) (hF : (d, F) ∈ L) (hne : a.eval (.tmp d) ≠ undef) : F (a.eval (.tmp d)) w :=
  ((hs.2 d (by simpa using hd)) F hF).resolve_left hne
end
end Go.Proofs.Ytbbfbeacgnimpaa.Late
