/-
  Plain laws of the model: a region that draws its order, in a class of worlds, with slots whose values differ from order to order (addresses of new memory): what is known of such a value in a world is all that an operation may use.
-/
import Derived.Test.YtbbfbeacgnimpaaQui
open Go
namespace Go.Proofs.Ytbbfbeacgnimpaa.Late
section
variable {P : Program} {ops : Array Oper} {md : Region.Mode} {C : World → Prop} {G : Nat → Value → World → Prop} {V : Nat → Value → Prop}
/-- w' is of the class, and what was known of a slot's value in w is still known. -/
def Kept (C : World → Prop) (G : Nat → Value → World → Prop) (w w' : World) : Prop := C w' ∧ ∀ d v, G d v w → G d v w'
def Gets (G : Nat → Value → World → Prop) (dst : Option Tmp) (v : Value) (w : World) : Prop := ∀ d, dst = some d → G d v w
def Upon (P : Program) (C : World → Prop) (G : Nat → Value → World → Prop) (dst : Option Tmp) (w : World) (V : Value → Prop) : Result Next → Prop
  | .ok (.value u) w' => Kept C G w w' ∧ V u ∧ Gets G dst u w'
  | .ok .skip w' => Kept C G w w' ∧ V undef ∧ Gets G dst undef w'
  | .ok (.enter f args) w' => Calls P f args w' fun e w'' => ∃ u, e = .returned u ∧ V u ∧ Kept C G w w'' ∧ Gets G dst u w''
  | _ => False
/-- What an operation may use of the world. -/
def Sees (ops : Array Oper) (C : World → Prop) (G : Nat → Value → World → Prop) (o : Oper) (a : Act) (w : World) : Prop := C w ∧ ∀ d ∈ o.looksAt ops, G d (a.eval (.tmp d)) w
def Quiet (P : Program) (ops : Array Oper) (C : World → Prop) (G : Nat → Value → World → Prop) (o : Oper) (a : Act) (V : Value → Prop) : Prop :=
  (∃ v, V v) ∧ ∀ w, Sees ops C G o a w → Upon P C G o.dst w V ((execOp a.eval o).run P w)
def QY (P : Program) (ops : Array Oper) (C : World → Prop) (G : Nat → Value → World → Prop) (o : Oper) (V : Value → Prop) (a : Act) : Prop := Region.wanted o (yielded ops a.tmps) = true → Quiet P ops C G o a V
def Out (ops : Array Oper) (o : Oper) (V : Value → Prop) (a : Act) (v : Value) : Prop := if Region.wanted o (yielded ops a.tmps) = true then V v else v = undef
/-- The walk in the order of the text. -/
def wpL (P : Program) (ops : Array Oper) (C : World → Prop) (G : Nat → Value → World → Prop) (Q : Act → Prop) : List Oper → List (Value → Prop) → Act → Prop
  | [], _, a => Q a
  | o :: rest, V :: Vs, a => QY P ops C G o V a ∧ ∀ v, Out ops o V a v → wpL P ops C G Q rest Vs (a.put o.dst v)
  | _ :: _, [], _ => False
def qOp (P : Program) (ops : Array Oper) (C : World → Prop) (G : Nat → Value → World → Prop) (V : Nat → Value → Prop) (i : Nat) (K : Act → Prop) (a : Act) : Prop :=
  match ops[i]? with
  | none => K a
  | some o => QY P ops C G o (V i) a ∧ ∀ v, Out ops o (V i) a v → K (a.put o.dst v)
theorem qOp_def {i : Nat} {o : Oper} (hi : ops[i]? = some o) {K : Act → Prop} {a : Act} : qOp P ops C G V i K a ↔ QY P ops C G o (V i) a ∧ ∀ v, Out ops o (V i) a v → K (a.put o.dst v) := by
  unfold qOp; rw [hi]
theorem qOp_mono {i : Nat} {a : Act} {K K' : Act → Prop} (h : ∀ a, K a → K' a) (hh : qOp P ops C G V i K a) : qOp P ops C G V i K' a := by
  unfold qOp at *
  split
  · rename_i ho; rw [ho] at hh; exact h _ hh
  · rename_i o ho; rw [ho] at hh; exact ⟨hh.1, fun v hv => h _ (hh.2 v hv)⟩
def Inv (C : World → Prop) (G : Nat → Value → World → Prop) (a : Act) (w : World) : Prop := C w ∧ ∀ d, G d (a.eval (.tmp d)) w
theorem eval_put (a : Act) (dst : Option Tmp) (u : Value) (d : Nat) : (a.put dst u).eval (.tmp d) = a.eval (.tmp d) ∨ (dst = some d ∧ (a.put dst u).eval (.tmp d) = u) := by
  cases dst with
  | none => exact .inl rfl
  | some e =>
    by_cases he : e = d
    · subst he
      by_cases hs : e < a.tmps.size
      · exact .inr ⟨rfl, by simp [Act.eval, Act.put, hs]⟩
      · exact .inl (by simp [Act.eval, Act.put, hs])
    · exact .inl (by simp [Act.eval, Act.put, Array.getElem?_setIfInBounds_ne he])
theorem inv_put {a : Act} {w w' : World} {dst : Option Tmp} {u : Value} (h : Inv C G a w) (k : Kept C G w w') (o : Gets G dst u w') : Inv C G (a.put dst u) w' := by
  refine ⟨k.1, fun d => ?_⟩
  rcases eval_put a dst u d with e | ⟨e1, e2⟩
  · rw [e]; exact k.2 _ _ (h.2 d)
  · rw [e2]; exact o d e1
theorem wp_of {o : Oper} {a : Act} {V : Value → Prop} {K : Act → Prop} {K' : Act → World → Prop} {Q' : Exit → Act → World → Prop} {w : World} (hw : Inv C G a w) (h : ∀ a w', Inv C G a w' → K a → K' a w')
    (hq : Quiet P ops C G o a V) (hk : ∀ v, V v → K (a.put o.dst v)) : o.wp P a w K' Q' := by
  have h3 := hq.2 w ⟨hw.1, fun d _ => hw.2 d⟩
  unfold Oper.wp
  generalize (execOp a.eval o).run P w = r at *
  cases r with
  | ok n w' =>
    cases n <;> simp only [Upon] at h3 <;> simp only [Oper.upon]
    case value u => exact h _ _ (inv_put hw h3.1 h3.2.2) (hk _ h3.2.1)
    case skip => exact h _ _ (inv_put hw h3.1 h3.2.2) (hk _ h3.2.1)
    case enter f args => exact h3.mono fun e w'' ⟨u, he, hv, k, g⟩ => by subst he; exact h _ _ (inv_put hw k g) (hk _ hv)
  | halt x w' => simp only [Upon] at h3
theorem wpOp_of {i : Nat} {a : Act} {K : Act → Prop} {K' : Act → World → Prop} {Q' : Exit → Act → World → Prop} {w : World} (hG : ∀ d w, C w → G d undef w) (hw : Inv C G a w) (h : ∀ a w', Inv C G a w' → K a → K' a w')
    (hh : qOp P ops C G V i K a) : wpOp P ops Q' i K' a w := by
  unfold qOp at hh
  unfold wpOp
  split
  · rename_i ho; rw [ho] at hh; exact h _ _ hw hh
  · rename_i o ho
    rw [ho] at hh
    split
    · rename_i hg
      refine .inl (wp_of hw h (hh.1 hg) fun v hv => hh.2 v ?_)
      unfold Out; rw [if_pos hg]; exact hv
    · rename_i hg
      refine h _ _ (inv_put hw ⟨hw.1, fun _ _ x => x⟩ fun d _ => hG d w hw.1) (hh.2 undef ?_)
      unfold Out; rw [if_neg hg]
def wpAnyQ (P : Program) (md : Region.Mode) (ops : Array Oper) (C : World → Prop) (G : Nat → Value → World → Prop) (V : Nat → Value → Prop) (Q : Act → Prop) : Nat → Array Bool → Act → Prop
  | 0, listed, a => Region.ready md ops listed = [] ∧ Q a
  | fuel + 1, listed, a =>
    (Region.ready md ops listed = [] → Q a) ∧
    ∀ i ∈ Region.ready md ops listed, qOp P ops C G V i (wpAnyQ P md ops C G V Q fuel (listed.setIfInBounds i true)) a
theorem wpAny_of {Q : Act → Prop} {Q' : Exit → Act → World → Prop} (hG : ∀ d w, C w → G d undef w) (hQ : ∀ a w, Inv C G a w → Q a → Q' .normal a w) : ∀ (fuel : Nat) (listed : Array Bool) (a : Act) (w : World), Inv C G a w →
    wpAnyQ P md ops C G V Q fuel listed a → wpAny P md ops Q' fuel listed a w
  | 0, _, _, _, hw, h => ⟨h.1, hQ _ _ hw h.2⟩
  | fuel + 1, _, _, _, hw, h => ⟨fun h0 => hQ _ _ hw (h.1 h0), fun i hi => wpOp_of hG hw (fun a' w' hw' => wpAny_of hG hQ fuel _ a' w' hw') (h.2 i hi)⟩
theorem sees_put {o : Oper} {a : Act} {dst : Option Tmp} {v : Value} {w : World} (h : ∀ d, dst = some d → d ∉ o.looksAt ops) (hs : Sees ops C G o a w) : Sees ops C G o (a.put dst v) w := by
  refine ⟨hs.1, fun d hd => ?_⟩
  rw [Act.eval_put (x := .tmp d) (fun e he hx => by cases hx; exact h _ he hd)]
  exact hs.2 d hd
theorem qy_put {o : Oper} {V : Value → Prop} {a : Act} {dst : Option Tmp} {v : Value} (hs : ∀ cs b, o.op ≠ .select cs b) (h : ∀ d, dst = some d → d ∉ o.looksAt ops) (hq : QY P ops C G o V (a.put dst v)) : QY P ops C G o V a := by
  intro hw
  obtain ⟨h1, h2⟩ := hq (by rw [wanted_put o a dst v h]; exact hw)
  refine ⟨h1, fun w hse => ?_⟩
  have := h2 w (sees_put h hse)
  rwa [execOp_put o hs a dst v h] at this
theorem qy_put' {o : Oper} {V : Value → Prop} {a : Act} {dst : Option Tmp} {v : Value} (hs : ∀ cs b, o.op ≠ .select cs b) (h : ∀ d, dst = some d → d ∉ o.looksAt ops) (hq : QY P ops C G o V a) : QY P ops C G o V (a.put dst v) := by
  intro hw
  obtain ⟨h1, h2⟩ := hq (by rw [wanted_put o a dst v h] at hw; exact hw)
  refine ⟨h1, fun w hse => ?_⟩
  rw [execOp_put o hs a dst v h]
  refine h2 w ⟨hse.1, fun d hd => ?_⟩
  have := hse.2 d hd
  rwa [Act.eval_put (x := .tmp d) (fun e he hx => by cases hx; exact h _ he hd)] at this
theorem out_put {o : Oper} {V : Value → Prop} {a : Act} {dst : Option Tmp} {v u : Value} (h : ∀ d, dst = some d → d ∉ o.looksAt ops) : Out ops o V (a.put dst v) u ↔ Out ops o V a u := by
  unfold Out; rw [wanted_put o a dst v h]
theorem out_some {o : Oper} {V : Value → Prop} {a : Act} (hq : QY P ops C G o V a) : ∃ v, Out ops o V a v := by
  by_cases hw : Region.wanted o (yielded ops a.tmps) = true
  · obtain ⟨v, hv⟩ := (hq hw).1
    exact ⟨v, by unfold Out; rw [if_pos hw]; exact hv⟩
  · exact ⟨undef, by unfold Out; rw [if_neg hw]⟩
theorem qOp_put {i j : Nat} {oi oj : Oper} (hj : ops[j]? = some oj) (hap : oi.apart ops oj = true)
    (hsi : ∀ cs b, oi.op ≠ .select cs b) (hsj : ∀ cs b, oj.op ≠ .select cs b) {K : Act → Prop} {a : Act}
    (hy : QY P ops C G oi (V i) a) (h : ∀ v, Out ops oi (V i) a v → qOp P ops C G V j K (a.put oi.dst v)) :
    qOp P ops C G V j (fun a' => QY P ops C G oi (V i) a' ∧ ∀ v, Out ops oi (V i) a' v → K (a'.put oi.dst v)) a := by
  obtain ⟨h1, h2, h3⟩ := Oper.apart_spec hap
  obtain ⟨v0, hv0⟩ := out_some hy
  rw [qOp_def hj]
  refine ⟨qy_put hsj h1 ((qOp_def hj).1 (h v0 hv0)).1, fun u hu => ⟨qy_put' hsi h3 hy, fun v hv => ?_⟩⟩
  rw [out_put h3] at hv
  have := ((qOp_def hj).1 (h v hv)).2 u ((out_put h1).2 hu)
  rwa [Act.put_comm a v u h2] at this
theorem wpAnyQ_first {Q : Act → Prop} {i : Nat} {oi : Oper} (hi : ops[i]? = some oi) (hsel : ∀ (j : Nat) (o : Oper) cs b, ops[j]? = some o → o.op ≠ .select cs b) :
    ∀ (fuel : Nat) (listed : Array Bool) (a : Act),
      (∀ j oj, ops[j]? = some oj → j ≠ i → listed.getD j true = false → (∀ e ∈ oj.after, Region.binds md e = true → e.on ≠ i) → oi.apart ops oj = true) →
      i ∈ Region.ready md ops listed → QY P ops C G oi (V i) a →
      (∀ v, Out ops oi (V i) a v → wpAnyQ P md ops C G V Q fuel (listed.setIfInBounds i true) (a.put oi.dst v)) → wpAnyQ P md ops C G V Q (fuel + 1) listed a := by
  intro fuel
  induction fuel with
  | zero =>
    intro listed a _ hr hy H
    refine ⟨fun h => (by rw [h] at hr; cases hr), fun j hj => ?_⟩
    by_cases hji : j = i
    · subst hji; exact (qOp_def hi).2 ⟨hy, H⟩
    · have := ready_mono hj hji
      obtain ⟨v0, hv0⟩ := out_some hy
      rw [(H v0 hv0).1] at this
      cases this
  | succ fuel ih =>
    intro listed a hfree hr hy H
    refine ⟨fun h => (by rw [h] at hr; cases hr), fun j hj => ?_⟩
    by_cases hji : j = i
    · subst hji; exact (qOp_def hi).2 ⟨hy, H⟩
    · have h1 := fun v hv => (H v hv).2 j (ready_mono hj hji)
      obtain ⟨hjun, oj, hoj, hall⟩ := mem_ready.1 hj
      have hnot : ∀ e ∈ oj.after, Region.binds md e = true → e.on ≠ i := fun e he hb heq => by
        have h1 := hall e he hb
        have h0 := (mem_ready.1 hr).1
        rw [heq] at h1
        rcases Nat.lt_or_ge i listed.size with h' | h'
        · simp [h'] at h0 h1; rw [h0] at h1; cases h1
        · simp [Array.getElem?_eq_none h'] at h1
      have h2 := qOp_put (i := i) hoj (hfree j oj hoj hji hjun hnot) (fun cs b => hsel i oi cs b hi) (fun cs b => hsel j oj cs b hoj) hy h1
      have hfree' : ∀ k ok, ops[k]? = some ok → k ≠ i → (listed.setIfInBounds j true).getD k true = false →
          (∀ e ∈ ok.after, Region.binds md e = true → e.on ≠ i) → oi.apart ops ok = true := fun k ok hk hki hun hno => by
        refine hfree k ok hk hki ?_ hno
        by_cases hjk : j = k
        · subst hjk; exact hjun
        · rw [getD_set_ne true hjk] at hun; exact hun
      refine qOp_mono (fun a' h3 => ih (listed.setIfInBounds j true) a' hfree' (ready_mono hr (Ne.symm hji)) h3.1 ?_) h2
      rw [Array.setIfInBounds_comm _ _ hji]
      exact h3.2
theorem wpAnyQ_lex {Q : Act → Prop} {All : List (Value → Prop)} (hs : Region.noSelect ops = true) : ∀ (l : List Oper) (Vs : List (Value → Prop)) (k : Nat) (listed : Array Bool) (a : Act), (∀ j, l[j]? = ops[k + j]?) → (∀ j, Vs[j]? = All[k + j]?) →
    Region.lexFrom md ops l.length k listed = true → wpL P ops C G Q l Vs a → wpAnyQ P md ops C G (fun i => (All[i]?).getD fun _ => True) Q l.length listed a
  | [], _, _, _, _, _, _, hB, h => ⟨by simpa [Region.lexFrom] using hB, h⟩
  | o :: l, [], _, _, _, _, _, _, h => h.elim
  | o :: l, V0 :: Vs, k, listed, a, hl, hV, hB, h => by
    have h0 : ops[k]? = some o := by simpa using (hl 0).symm
    have hv0 : (All[k]?).getD (fun _ => True) = V0 := by
      have := hV 0
      rw [Nat.add_zero] at this
      rw [← this]; rfl
    simp only [List.length_cons, Region.lexFrom, Bool.and_eq_true] at hB
    obtain ⟨⟨hr, hf⟩, hB'⟩ := hB
    refine wpAnyQ_first h0 (Region.noSelect_spec hs) l.length listed a (Region.free_spec h0 hf) (by simpa using hr) (by rw [hv0]; exact h.1) fun v hv => ?_
    rw [hv0] at hv
    exact wpAnyQ_lex hs l Vs (k + 1) _ _ (fun j => by have := hl (j + 1); simpa [Nat.add_assoc, Nat.add_comm 1 j] using this) (fun j => by have := hV (j + 1); simpa [Nat.add_assoc, Nat.add_comm 1 j] using this) hB' (h.2 v hv)
/-- A region that draws its order: one walk in the order of the text serves. -/
theorem wp_region_late {id : Nat} {Q : Exit → Act → World → Prop} {a : Act} {w : World} {l : List Oper} (C : World → Prop) (G : Nat → Value → World → Prop) (Vs : List (Value → Prop)) (hm : P.follows .mixedOrders = true) (hB : Region.lexB .any l.toArray = true)
    (hG : ∀ d w, C w → G d undef w) (hC : C w.drew) (hI : ∀ d, G d (a.eval (.tmp d)) w.drew)
    (h : wpL P l.toArray C G (fun a' => ∀ w', C w' → (∀ d, G d (a'.eval (.tmp d)) w') → Q .normal a' w') l Vs a) : (Code.region id l.toArray true).wp P Q a w := by
  simp only [Region.lexB, Bool.and_eq_true] at hB
  refine wp_region_any hm (wpAny_of (V := fun i => (Vs[i]?).getD fun _ => True) (Q := fun a' => ∀ w', C w' → (∀ d, G d (a'.eval (.tmp d)) w') → Q .normal a' w') hG (fun _ w' hw' h => h w' hw'.1 hw'.2) _ _ _ w.drew ⟨hC, hI⟩ ?_)
  have := wpAnyQ_lex (C := C) (G := G) (md := .any) (All := Vs) hB.1 l Vs 0 (Array.replicate l.toArray.size false) a (by simp) (by simp) (by simpa using hB.2) h
  simpa using this
end
end Go.Proofs.Ytbbfbeacgnimpaa.Late
