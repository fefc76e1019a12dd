/-
  A law on a region that draws its order, over any program: operations that look at no memory may be taken first, in any order that their edges allow; what is left then has one order.
-/
import Derived.Orders
import Derived.Still
import Derived.Tactics
namespace Go.Proofs.Ytiicjbhlcmmijaa
namespace Hub
open Go

section
variable {P : Program} {ops : Array Oper} {md : Region.Mode}

/-- Only the normal end. -/
def Only (Q : Exit → Act → World → Prop) : Exit → Act → World → Prop
  | .normal, a, w => Q .normal a w
  | _, _, _ => False
theorem Only.imp {Q : Exit → Act → World → Prop} : ∀ (e : Exit) (a : Act) (w : World), Only Q e a w → Q e a w := fun e a w h => by
  cases e <;> first | exact h | exact (h : False).elim
theorem Only.normal {Q : Exit → Act → World → Prop} {a : Act} {w : World} (h : Q .normal a w) : Only Q .normal a w := h

/-- In state 'a' the operation yields 'v' in every world, and leaves the world alone. -/
def Yields (P : Program) (ops : Array Oper) (o : Oper) (v : Value) (a : Act) : Prop :=
  (Region.wanted o (yielded ops a.tmps) = true ∧ ∀ w, (execOp a.eval o).run P w = .ok (.value v) w) ∨ (Region.wanted o (yielded ops a.tmps) = false ∧ v = undef)
theorem Yields.of_same {o : Oper} {v : Value} {a a' : Act} (hy : Yields P ops o v a) (he : execOp a'.eval o = execOp a.eval o)
    (hw : Region.wanted o (yielded ops a'.tmps) = Region.wanted o (yielded ops a.tmps)) : Yields P ops o v a' := by
  unfold Yields at *
  rw [he, hw]
  exact hy
theorem Yields.wpOp {Q : Exit → Act → World → Prop} {i : Nat} {o : Oper} {v : Value} {a : Act} {w : World} (hi : ops[i]? = some o) (hy : Yields P ops o v a) {K : Act → World → Prop} (h : K (a.put o.dst v) w) : Go.wpOp P ops Q i K a w := by
  unfold Go.wpOp
  simp only [hi]
  rcases hy with ⟨hw, hv⟩ | ⟨hw, rfl⟩
  · simp only [hw, if_true]
    left
    unfold Oper.wp
    rw [hv w]; exact h
  · simp only [hw, Bool.false_eq_true, if_false]; exact h

theorem wpOp_put {Q : Exit → Act → World → Prop} {j : Nat} {oi oj : Oper} {v : Value} (hj : ops[j]? = some oj) (hap : oi.apart ops oj = true)
    (hsi : ∀ cs b, oi.op ≠ .select cs b) (hsj : ∀ cs b, oj.op ≠ .select cs b) {K : Act → World → Prop} {a : Act} {w : World}
    (hy : Yields P ops oi v a) (h : wpOp P ops (Only Q) j K (a.put oi.dst v) w) :
    wpOp P ops (Only Q) j (fun a' w' => (∃ ds, Yields P ops oi v { a' with defers := ds }) ∧ K (a'.put oi.dst v) w') a w := by
  obtain ⟨h1, h2, h3⟩ := Oper.apart_spec hap
  have keep : ∀ (a : Act), Yields P ops oi v a → ∀ u, Yields P ops oi v (a.put oj.dst u) := fun a hy u =>
    hy.of_same (execOp_put oi hsi a oj.dst u h3) (wanted_put oi a oj.dst u h3)
  have keep2 : ∀ (a : Act), Yields P ops oi v a → ∀ u, ∃ ds, Yields P ops oi v { (a.put oj.dst u) with defers := ds } := fun a hy u => ⟨_, keep a hy u⟩
  unfold wpOp at *
  simp only [hj] at *
  rw [wanted_put oj a oi.dst v h1] at h
  split
  · rename_i hw
    simp only [hw, if_true] at h
    rcases h with h | ⟨_, a₀, w₀, h⟩
    · left
      unfold Oper.wp at *
      rw [execOp_put oj hsj a oi.dst v h1] at h
      generalize (execOp a.eval oj).run P w = r at *
      cases r with
      | ok n w' =>
        cases n <;> simp only [Oper.upon] at h ⊢
        case value u => exact ⟨keep2 a hy u, by rw [← Act.put_comm a v u h2]; exact h⟩
        case skip => exact ⟨keep2 a hy _, by rw [← Act.put_comm a v undef h2]; exact h⟩
        case defer d =>
          have e : ({ a.put oi.dst v with defers := d :: (a.put oi.dst v).defers } : Act) = ({ a with defers := d :: a.defers } : Act).put oi.dst v := by cases oi.dst <;> rfl
          rw [e, Act.put_comm _ v undef h2] at h
          refine ⟨⟨a.defers, ?_⟩, h⟩
          have : ({ ({ a with defers := d :: a.defers } : Act).put oj.dst undef with defers := a.defers } : Act) = a.put oj.dst undef := by cases oj.dst <;> rfl
          rw [this]; exact keep a hy _
        case enter f args =>
          refine Calls.mono h fun e w'' he => ?_
          cases e with
          | returned u => exact ⟨keep2 a hy u, by rw [← Act.put_comm a v u h2]; exact he⟩
          | panicked c => exact he
          | outgrown => obtain ⟨a₀, w₀, h0⟩ := he; exact (h0 : False).elim
        case row row args => exact Rows.mono h fun u w'' he => ⟨keep2 a hy u, by rw [← Act.put_comm a v u h2]; exact he⟩
      | halt x w' => cases x <;> simp only [Oper.upon] at h ⊢ <;> exact h
    · exact (h : False).elim
  · rename_i hw
    simp only [hw] at h
    exact ⟨keep2 a hy _, by rw [← Act.put_comm a v undef h2]; exact h⟩

theorem Yields.defers {o : Oper} {v : Value} {a : Act} {ds : List Deferred} (h : Yields P ops o v { a with defers := ds }) : Yields P ops o v a :=
  h.of_same (by have : ({ a with defers := ds } : Act).eval = a.eval := by funext x; cases x <;> rfl
                rw [this]) rfl

/-- An operation that looks at no memory may be taken first. -/
theorem wpAny_first {Q : Exit → Act → World → Prop} {i : Nat} {oi : Oper} {v : Value} (hi : ops[i]? = some oi) (hsel : ∀ (j : Nat) (o : Oper) cs b, ops[j]? = some o → o.op ≠ .select cs b) :
    ∀ (fuel : Nat) (listed : Array Bool) (a : Act) (w : World),
      (∀ j oj, ops[j]? = some oj → j ≠ i → listed.getD j true = false → (∀ e ∈ oj.after, Region.binds md e = true → e.on ≠ i) → oi.apart ops oj = true) →
      i ∈ Region.ready md ops listed → Yields P ops oi v a →
      wpAny P md ops (Only Q) fuel (listed.setIfInBounds i true) (a.put oi.dst v) w → wpAny P md ops (Only Q) (fuel + 1) listed a w := by
  intro fuel
  induction fuel with
  | zero =>
    intro listed a w _ hr hy H
    refine ⟨fun h => (by rw [h] at hr; cases hr), fun j hj => ?_⟩
    by_cases hji : j = i
    · subst hji; exact hy.wpOp hi H
    · have := ready_mono hj hji
      rw [H.1] at this
      cases this
  | succ fuel ih =>
    intro listed a w hfree hr hy H
    refine ⟨fun h => (by rw [h] at hr; cases hr), fun j hj => ?_⟩
    by_cases hji : j = i
    · subst hji; exact hy.wpOp hi H
    · have h1 := H.2 j (ready_mono hj hji)
      obtain ⟨hjun, oj, hoj, hall⟩ := mem_ready.1 hj
      have hnot : ∀ e ∈ oj.after, Region.binds md e = true → e.on ≠ i := fun e he hb heq => by
        have h1 := hall e he hb
        have h0 := (mem_ready.1 hr).1
        rw [heq] at h1
        rcases Nat.lt_or_ge i listed.size with h' | h'
        · simp [h'] at h0 h1; rw [h0] at h1; cases h1
        · simp [Array.getElem?_eq_none h'] at h1
      have h2 := wpOp_put hoj (hfree j oj hoj hji hjun hnot) (fun cs b => hsel i oi cs b hi) (fun cs b => hsel j oj cs b hoj) hy h1
      have hfree' : ∀ k ok, ops[k]? = some ok → k ≠ i → (listed.setIfInBounds j true).getD k true = false →
          (∀ e ∈ ok.after, Region.binds md e = true → e.on ≠ i) → oi.apart ops ok = true := fun k ok hk hki hun hno => by
        refine hfree k ok hk hki ?_ hno
        by_cases hjk : j = k
        · subst hjk; exact hjun
        · rw [getD_set_ne true hjk] at hun; exact hun
      refine wpOp_mono (fun a' w' h3 => ?_) h2
      obtain ⟨⟨ds, hy'⟩, h4⟩ := h3
      refine ih (listed.setIfInBounds j true) a' w' hfree' (ready_mono hr (Ne.symm hji)) hy'.defers ?_
      rw [Array.setIfInBounds_comm _ _ hji]
      exact h4

/-- The operations that look at no memory, one behind the other. -/
def wpReads (P : Program) (ops : Array Oper) (Q : Act → Prop) : List Oper → Act → Prop
  | [], a => Q a
  | o :: rest, a => if Region.wanted o (yielded ops a.tmps) then ∃ v, (∀ w, (execOp a.eval o).run P w = .ok (.value v) w) ∧ wpReads P ops Q rest (a.put o.dst v) else wpReads P ops Q rest (a.put o.dst undef)
theorem wpReads_nil {Q : Act → Prop} {a : Act} (h : Q a) : wpReads P ops Q [] a := h
theorem wpReads_step {Q : Act → Prop} {a : Act} {o : Oper} {rest : List Oper}
    (h : ∀ K : Act → Prop, (∀ a, wpReads P ops Q rest a → K a) → if Region.wanted o (yielded ops a.tmps) then ∃ v, (∀ w, (execOp a.eval o).run P w = .ok (.value v) w) ∧ K (a.put o.dst v) else K (a.put o.dst undef)) : wpReads P ops Q (o :: rest) a :=
  h _ (fun _ h => h)

/-- The check: first 'rd', each at a time when it may come up and is apart from all that may; then 'tl', each alone. -/
def tailB (md : Region.Mode) (ops : Array Oper) : List Nat → Array Bool → Bool
  | [], listed => Region.ready md ops listed == []
  | i :: r, listed => Region.ready md ops listed == [i] && tailB md ops r (listed.setIfInBounds i true)
def mixB (md : Region.Mode) (ops : Array Oper) (tl : List Nat) : List Nat → Array Bool → Bool
  | [], listed => tailB md ops tl listed
  | i :: r, listed => (Region.ready md ops listed).contains i && Region.free md ops listed i && mixB md ops tl r (listed.setIfInBounds i true)

theorem wpAny_tail {Q : Exit → Act → World → Prop} (tl : List Nat) : ∀ (lt : List Oper) (listed : Array Bool) (a : Act) (w : World), tl.map (ops[·]?) = lt.map some → tailB md ops tl listed = true →
    wpList P ops Q lt a w → wpAny P md ops Q tl.length listed a w := by
  induction tl with
  | nil =>
    intro lt listed a w hm hB h
    cases lt with
    | nil => exact ⟨by simpa [tailB] using hB, h⟩
    | cons o lt => simp at hm
  | cons i r ih =>
    intro lt listed a w hm hB h
    cases lt with
    | nil => simp at hm
    | cons o lt =>
      simp only [List.map_cons, List.cons.injEq] at hm
      simp only [tailB, Bool.and_eq_true, beq_iff_eq] at hB
      refine ⟨fun h0 => (by rw [hB.1] at h0; cases h0), fun j hj => ?_⟩
      rw [hB.1] at hj
      obtain rfl : j = i := by simpa using hj
      unfold wpOp
      simp only [hm.1]
      unfold wpList at h
      split
      · rename_i hw
        simp only [hw, if_true] at h
        exact h.imp (Oper.wp_mono fun a w h => ih lt _ a w hm.2 hB.2 h) id
      · rename_i hw
        simp only [hw] at h
        exact ih lt _ _ _ hm.2 hB.2 h

theorem wpAny_reads {Q : Exit → Act → World → Prop} (hs : Region.noSelect ops = true) (tl : List Nat) (lt : List Oper) (ht : tl.map (ops[·]?) = lt.map some) (w : World) (rd : List Nat) :
    ∀ (lr : List Oper) (listed : Array Bool) (a : Act), rd.map (ops[·]?) = lr.map some → mixB md ops tl rd listed = true →
    wpReads P ops (fun a' => wpList P ops (Only Q) lt a' w) lr a → wpAny P md ops (Only Q) (rd.length + tl.length) listed a w := by
  induction rd with
  | nil =>
    intro lr listed a hm hB h
    cases lr with
    | nil =>
      have := wpAny_tail (md := md) (Q := Only Q) tl lt listed a w ht hB h
      simpa using this
    | cons o lr => simp at hm
  | cons i r ih =>
    intro lr listed a hm hB h
    cases lr with
    | nil => simp at hm
    | cons o lr =>
      simp only [List.map_cons, List.cons.injEq] at hm
      simp only [mixB, Bool.and_eq_true] at hB
      obtain ⟨⟨hr, hf⟩, hB'⟩ := hB
      unfold wpReads at h
      have hl : (i :: r).length + tl.length = (r.length + tl.length) + 1 := by simp; omega
      rw [hl]
      split at h
      · rename_i hw
        obtain ⟨v, hv, hK⟩ := h
        exact wpAny_first hm.1 (Region.noSelect_spec hs) _ listed a w (Region.free_spec hm.1 hf) (by simpa using hr) (.inl ⟨hw, hv⟩) (ih lr _ _ hm.2 hB' hK)
      · rename_i hw
        exact wpAny_first hm.1 (Region.noSelect_spec hs) _ listed a w (Region.free_spec hm.1 hf) (by simpa using hr) (.inr ⟨by simpa using hw, rfl⟩) (ih lr _ _ hm.2 hB' h)

theorem wp_region_reads {id : Nat} {Q : Exit → Act → World → Prop} {a : Act} {w : World} {l : List Oper} (rd tl : List Nat) (lr lt : List Oper) (hm : P.follows .mixedOrders = true)
    (hs : Region.noSelect l.toArray = true) (hn : rd.length + tl.length = l.length) (hB : mixB .any l.toArray tl rd (Array.replicate l.length false) = true)
    (hr : rd.map (l.toArray[·]?) = lr.map some) (ht : tl.map (l.toArray[·]?) = lt.map some)
    (h : wpReads P l.toArray (fun a' => wpList P l.toArray (Only Q) lt a' w.drew) lr a) : (Code.region id l.toArray true).wp P Q a w := by
  refine Code.wp_mono Only.imp (wp_region_any (Q := Only Q) hm ?_)
  have := wpAny_reads (md := .any) (Q := Q) hs tl lt ht w.drew rd lr (Array.replicate l.length false) a hr hB h
  rw [hn] at this
  simpa using this
/-- The same where the operations that look at no memory are the first n. -/
theorem wp_region_pre {id : Nat} {Q : Exit → Act → World → Prop} {a : Act} {w : World} {l : List Oper} (n : Nat) (hm : P.follows .mixedOrders = true)
    (hB : (Region.noSelect l.toArray && decide (n ≤ l.length) && mixB .any l.toArray (List.range' n (l.length - n)) (List.range n) (Array.replicate l.length false)) = true)
    (h : wpReads P l.toArray (fun a' => wpList P l.toArray (Only Q) (l.drop n) a' w.drew) (l.take n) a) : (Code.region id l.toArray true).wp P Q a w := by
  simp only [Bool.and_eq_true, decide_eq_true_eq] at hB
  obtain ⟨⟨hs, hn⟩, hB⟩ := hB
  refine wp_region_reads (List.range n) (List.range' n (l.length - n)) (l.take n) (l.drop n) hm hs (by simp; omega) hB ?_ ?_ h
  · apply List.ext_getElem
    · simp; omega
    · intro i h1 h2
      have h3 : i < l.length := by simp at h1; omega
      simp [List.getElem?_eq_getElem h3]
  · apply List.ext_getElem
    · simp
    · intro i h1 h2
      have h3 : n + i < l.length := by simp at h1; omega
      simp [List.getElem?_eq_getElem h3]
end
end Hub
end Go.Proofs.Ytiicjbhlcmmijaa
