/-
  The walk of the fifth law: every call of a reader returns the reference's result.
-/
import Derived.Test.YtapbmbbghbgkfaaWirO
open Go Go.RowKit Go.Proofs
namespace Go.Proofs.Ytapbmbbghbgkfaa
namespace Hub
theorem RdP.drewN {B : Nat} {r : Rs} {w : World} (h : RdP B r w) (n : Nat) : RdP B r (w.drewN n) := h
/-- Below every block from which on the two readers lie, nothing has turned. -/
def Btw (B C : Nat) (w w' : World) : Prop := ∀ N, N ≤ B → N ≤ C → N ≤ w.heap.size → Below N w w'
theorem Btw.refl (B C : Nat) (w : World) : Btw B C w w := fun _ _ _ _ => Below.refl _ _
theorem Btw.p {B C : Nat} {a w w' : World} (h : Btw B C a w) (k : Tch B w w') (hs : a.heap.size ≤ w.heap.size) : Btw B C a w' := fun N h1 h2 h3 => (h N h1 h2 h3).trans (k.below h1 (Nat.le_trans h3 hs))
theorem Btw.x {B C : Nat} {a w w' : World} (h : Btw B C a w) (k : Tch C w w') (hs : a.heap.size ≤ w.heap.size) : Btw B C a w' := fun N h1 h2 h3 => (h N h1 h2 h3).trans (k.below h2 (Nat.le_trans h3 hs))
theorem Btw.drewN {B C : Nat} {a w : World} (h : Btw B C a w) (n : Nat) : Btw B C a (w.drewN n) := fun N h1 h2 h3 => below_drewN (h N h1 h2 h3) n
theorem Btw.alloc (B C : Nat) (w : World) (o : Obj) : Btw B C w (w.alloc o) := fun _ _ _ h => (Below.refl _ _).alloc h _
theorem Tch.cell {B : Nat} {w w' : World} (k : Tch B w w') {b o : Nat} (hb : b < w.heap.size) (hn : b ≠ B) : w'.cell? ⟨b, o, none⟩ = w.cell? ⟨b, o, none⟩ :=
  World.cell?_of_block (w := w) (k.block b hb (by simpa using hn))
theorem rMany_room (n : Nat) : ∀ r, (rMany n r).2.err = 0 → n + (rMany n r).2.rest.length ≤ r.rest.length := by
  induction n with
  | zero => intro r _; exact Nat.le_of_eq (Nat.zero_add _)
  | succ n ih =>
    intro r h
    have h' : (rMany n (rInt r).2).2.err = 0 := h
    have h1 := ih (rInt r).2 h'
    have h2 : (rInt r).2.err = 0 := by
      by_cases hz : (rInt r).2.err = 0
      · exact hz
      · rw [rMany_bad n _ hz] at h'; exact h'
    have h3 := rInt_lt r h2
    show n + 1 + (rMany n (rInt r).2).2.rest.length ≤ r.rest.length
    omega
theorem rCount_rest (m : Int) (r : Rs) : (rCount m r).2.rest.length ≤ r.rest.length := by
  have h := rInt_le r
  rw [rCount]
  split
  · exact h
  · split
    · exact h
    · split <;> exact h
theorem rInts_length (m : Int) (r : Rs) : (rInts m r).1.length ≤ r.rest.length := by
  have h := rCount_rest m r
  rw [rInts]
  split
  · exact Nat.zero_le _
  · rename_i he
    have h1 := rMany_room _ _ (Classical.not_not.1 he)
    have h2 := rMany_length (rCount m r).1.toNat (rCount m r).2
    omega
theorem rInts_rest (m : Int) (r : Rs) : (rInts m r).2.rest.length ≤ r.rest.length := by
  have h := rCount_rest m r
  have h2 : ∀ n r, (rMany n r).2.rest.length ≤ r.rest.length := by
    intro n
    induction n with
    | zero => intro r; exact Nat.le_refl _
    | succ n ih => intro r; exact Nat.le_trans (ih _) (rInt_le r)
  rw [rInts]
  split
  · exact Nat.le_trans (h2 _ _) h
  · exact Nat.le_trans (h2 _ _) h
/-- The state after a call. -/
def rStep (k m e : Int) (r : Rs) : Rs :=
  if k = 0 then (rInt r).2 else if k = 1 then (rText m r).2 else if k = 2 then (rBool r).2 else if k = 3 then (rCount m r).2 else if k = 4 then (rInts m r).2 else if k = 5 then rFail e r else r
end Hub
open Hub

set_option maxHeartbeats 4000000 in
theorem step_any (B C : Nat) (S : ByteArray) (r : Rs) (k m e : Int) (w : World) (h : RdP B r w) (h' : RdR C S r w) (hBC : B ≠ C) :
    Calls Try.prog 30 #[.pointer (some ⟨B, 0, none⟩), .pointer (some ⟨C, 0, none⟩), .agg #[.int .i64 k, .int .i64 m, .int .i64 e]] w fun ending w' => ending = .returned (.bool true) ∧ RdP B (rStep k m e r) w' ∧ RdR C S (rStep k m e r) w' ∧ Btw B C w w' := by
  have hlt := h.lt
  have hlt' := h'.lt
  have hP0 := fun o => h.below ((Below.refl w.heap.size w).alloc (Nat.le_refl _) o) hlt
  have hX0 := fun o => h'.below ((Below.refl w.heap.size w).alloc (Nat.le_refl _) o) hlt'
  have HP0 := Lib.hid hP0
  have HX0 := Lib.hid hX0
  have HL := Lib.hid h.2
  clear hP0 hX0 h h'
  by_cases g0 : k = 0
  · have hr : rStep k m e r = (rInt r).2 := by unfold rStep; rw [if_pos g0]
    rw [hr]; clear hr
    have hk0 : (k == 0) = true := by simpa using g0
    clear g0
    have HP := Lib.hid (fun w h => wrInt_any B r w h)
    have HX := Lib.hid (fun w h => xInt_any C S r w h)
    generalize (rInt r).1 = o at *
    generalize (rInt r).2 = r1 at *
    go_enter Try.func30, Try.ntmps30
    go_wp2_with fail
    refine (HP.out _ (HP0.out _)).mono ?_
    rintro e w1 ⟨rfl, hP1, t1⟩
    have hX1 := (HX0.out _).kept t1 (fun e => hBC e.symm)
    have hc1 : w1.cell? ⟨w.heap.size, 1, none⟩ = some (.int .i64 m) := by rw [t1.cell (by simp) (by omega)]; simp
    have hc2 : w1.cell? ⟨w.heap.size, 2, none⟩ = some (.int .i64 e) := by rw [t1.cell (by simp) (by omega)]; simp
    go_wp2_with fail
    refine (HX.out _ hX1).mono ?_
    rintro e w2 ⟨rfl, hXz, t2⟩
    have hPz := hP1.kept t2 hBC
    have hBz := ((Btw.alloc B C w _).p t1 (by simp)).x t2 (Nat.le_trans (by simp) t1.size)
    go_wp2_with fail
    refine (wErr_any B r1 _ hPz).mono ?_
    rintro e w7 ⟨rfl, rfl⟩
    go_wp2_with fail
    refine (xErr_any C S r1 _ hXz).mono ?_
    rintro e w7 ⟨rfl, rfl⟩
    go_wp2_with fail
    refine (wLeft_any B r1 _ hPz).mono ?_
    rintro e w7 ⟨rfl, rfl⟩
    go_wp2_with fail
    refine (xLeft_any C S r1 _ hXz).mono ?_
    rintro e w7 ⟨rfl, n7, rfl⟩
    go_wp2_with fail
    refine (wEnd_any B r1 _ (RdP.drewN hPz n7)).mono ?_
    rintro e w8 ⟨rfl, rfl⟩
    go_wp2_with fail
    refine (xEnd_any C S r1 _ (RdR.drewN hXz n7)).mono ?_
    rintro e w8 ⟨rfl, n8, rfl⟩
    go_wp2_with fail
    go_ret
    exact ⟨rfl, RdP.drewN hPz _, RdR.drewN hXz _, hBz.drewN _⟩
  by_cases g1 : k = 1
  · have hr : rStep k m e r = (rText m r).2 := by unfold rStep; rw [if_neg g0, if_pos g1]
    rw [hr]; clear hr
    have hk0 : (k == 0) = false := by simpa using g0
    have hk1 : (k == 1) = true := by simpa using g1
    clear g0 g1
    have HP := Lib.hid (fun w h => wrText_any B r m w h)
    have HX := Lib.hid (fun w h => xText_any C S r m w h)
    generalize (rText m r).1 = o at *
    generalize (rText m r).2 = r1 at *
    generalize mk o = K at *
    go_enter Try.func30, Try.ntmps30
    go_wp2_with fail
    refine (HP.out _ (HP0.out _)).mono ?_
    rintro e w1 ⟨rfl, hP1, t1⟩
    have hX1 := (HX0.out _).kept t1 (fun e => hBC e.symm)
    have hc1 : w1.cell? ⟨w.heap.size, 1, none⟩ = some (.int .i64 m) := by rw [t1.cell (by simp) (by omega)]; simp
    have hc2 : w1.cell? ⟨w.heap.size, 2, none⟩ = some (.int .i64 e) := by rw [t1.cell (by simp) (by omega)]; simp
    go_wp2_with fail
    refine (HX.out _ hX1).mono ?_
    rintro e w2 ⟨rfl, hXz, t2⟩
    have hPz := hP1.kept t2 hBC
    have hBz := ((Btw.alloc B C w _).p t1 (by simp)).x t2 (Nat.le_trans (by simp) t1.size)
    go_wp2_with fail
    refine (wErr_any B r1 _ hPz).mono ?_
    rintro e w7 ⟨rfl, rfl⟩
    go_wp2_with fail
    refine (xErr_any C S r1 _ hXz).mono ?_
    rintro e w7 ⟨rfl, rfl⟩
    go_wp2_with fail
    refine (wLeft_any B r1 _ hPz).mono ?_
    rintro e w7 ⟨rfl, rfl⟩
    go_wp2_with fail
    refine (xLeft_any C S r1 _ hXz).mono ?_
    rintro e w7 ⟨rfl, n7, rfl⟩
    go_wp2_with fail
    refine (wEnd_any B r1 _ (RdP.drewN hPz n7)).mono ?_
    rintro e w8 ⟨rfl, rfl⟩
    go_wp2_with fail
    refine (xEnd_any C S r1 _ (RdR.drewN hXz n7)).mono ?_
    rintro e w8 ⟨rfl, n8, rfl⟩
    go_wp2_with fail
    go_ret
    exact ⟨rfl, RdP.drewN hPz _, RdR.drewN hXz _, hBz.drewN _⟩
  by_cases g2 : k = 2
  · have hr : rStep k m e r = (rBool r).2 := by unfold rStep; rw [if_neg g0, if_neg g1, if_pos g2]
    rw [hr]; clear hr
    have hk0 : (k == 0) = false := by simpa using g0
    have hk1 : (k == 1) = false := by simpa using g1
    have hk2 : (k == 2) = true := by simpa using g2
    clear g0 g1 g2
    have HP := Lib.hid (fun w h => wrBool_any B r w h)
    have HX := Lib.hid (fun w h => xBool_any C S r w h)
    generalize (rBool r).1 = o at *
    generalize (rBool r).2 = r1 at *
    go_enter Try.func30, Try.ntmps30
    go_wp2_with fail
    refine (HP.out _ (HP0.out _)).mono ?_
    rintro e w1 ⟨rfl, hP1, t1⟩
    have hX1 := (HX0.out _).kept t1 (fun e => hBC e.symm)
    have hc1 : w1.cell? ⟨w.heap.size, 1, none⟩ = some (.int .i64 m) := by rw [t1.cell (by simp) (by omega)]; simp
    have hc2 : w1.cell? ⟨w.heap.size, 2, none⟩ = some (.int .i64 e) := by rw [t1.cell (by simp) (by omega)]; simp
    go_wp2_with fail
    refine (HX.out _ hX1).mono ?_
    rintro e w2 ⟨rfl, hXz, t2⟩
    have hPz := hP1.kept t2 hBC
    have hBz := ((Btw.alloc B C w _).p t1 (by simp)).x t2 (Nat.le_trans (by simp) t1.size)
    go_wp2_with fail
    refine (wErr_any B r1 _ hPz).mono ?_
    rintro e w7 ⟨rfl, rfl⟩
    go_wp2_with fail
    refine (xErr_any C S r1 _ hXz).mono ?_
    rintro e w7 ⟨rfl, rfl⟩
    go_wp2_with fail
    refine (wLeft_any B r1 _ hPz).mono ?_
    rintro e w7 ⟨rfl, rfl⟩
    go_wp2_with fail
    refine (xLeft_any C S r1 _ hXz).mono ?_
    rintro e w7 ⟨rfl, n7, rfl⟩
    go_wp2_with fail
    refine (wEnd_any B r1 _ (RdP.drewN hPz n7)).mono ?_
    rintro e w8 ⟨rfl, rfl⟩
    go_wp2_with fail
    refine (xEnd_any C S r1 _ (RdR.drewN hXz n7)).mono ?_
    rintro e w8 ⟨rfl, n8, rfl⟩
    go_wp2_with fail
    go_ret
    exact ⟨rfl, RdP.drewN hPz _, RdR.drewN hXz _, hBz.drewN _⟩
  by_cases g3 : k = 3
  · have hr : rStep k m e r = (rCount m r).2 := by unfold rStep; rw [if_neg g0, if_neg g1, if_neg g2, if_pos g3]
    rw [hr]; clear hr
    have hk0 : (k == 0) = false := by simpa using g0
    have hk1 : (k == 1) = false := by simpa using g1
    have hk2 : (k == 2) = false := by simpa using g2
    have hk3 : (k == 3) = true := by simpa using g3
    clear g0 g1 g2 g3
    have HP := Lib.hid (fun w h => wrCount_any B r m w h)
    have HX := Lib.hid (fun w h => xCount_any C S r m w h)
    generalize (rCount m r).1 = o at *
    generalize (rCount m r).2 = r1 at *
    go_enter Try.func30, Try.ntmps30
    go_wp2_with fail
    refine (HP.out _ (HP0.out _)).mono ?_
    rintro e w1 ⟨rfl, hP1, t1⟩
    have hX1 := (HX0.out _).kept t1 (fun e => hBC e.symm)
    have hc1 : w1.cell? ⟨w.heap.size, 1, none⟩ = some (.int .i64 m) := by rw [t1.cell (by simp) (by omega)]; simp
    have hc2 : w1.cell? ⟨w.heap.size, 2, none⟩ = some (.int .i64 e) := by rw [t1.cell (by simp) (by omega)]; simp
    go_wp2_with fail
    refine (HX.out _ hX1).mono ?_
    rintro e w2 ⟨rfl, hXz, t2⟩
    have hPz := hP1.kept t2 hBC
    have hBz := ((Btw.alloc B C w _).p t1 (by simp)).x t2 (Nat.le_trans (by simp) t1.size)
    go_wp2_with fail
    refine (wErr_any B r1 _ hPz).mono ?_
    rintro e w7 ⟨rfl, rfl⟩
    go_wp2_with fail
    refine (xErr_any C S r1 _ hXz).mono ?_
    rintro e w7 ⟨rfl, rfl⟩
    go_wp2_with fail
    refine (wLeft_any B r1 _ hPz).mono ?_
    rintro e w7 ⟨rfl, rfl⟩
    go_wp2_with fail
    refine (xLeft_any C S r1 _ hXz).mono ?_
    rintro e w7 ⟨rfl, n7, rfl⟩
    go_wp2_with fail
    refine (wEnd_any B r1 _ (RdP.drewN hPz n7)).mono ?_
    rintro e w8 ⟨rfl, rfl⟩
    go_wp2_with fail
    refine (xEnd_any C S r1 _ (RdR.drewN hXz n7)).mono ?_
    rintro e w8 ⟨rfl, n8, rfl⟩
    go_wp2_with fail
    go_ret
    exact ⟨rfl, RdP.drewN hPz _, RdR.drewN hXz _, hBz.drewN _⟩
  by_cases g4 : k = 4
  · have hr : rStep k m e r = (rInts m r).2 := by unfold rStep; rw [if_neg g0, if_neg g1, if_neg g2, if_neg g3, if_pos g4]
    rw [hr]; clear hr
    have hk0 : (k == 0) = false := by simpa using g0
    have hk1 : (k == 1) = false := by simpa using g1
    have hk2 : (k == 2) = false := by simpa using g2
    have hk3 : (k == 3) = false := by simpa using g3
    have hk4 : (k == 4) = true := by simpa using g4
    clear g0 g1 g2 g3 g4
    have HP := Lib.hid (fun w h => wrInts_any B r m w h)
    have HX := Lib.hid (fun w h => xInts_any C S r m w h)
    have HLen := Lib.hid (Nat.le_trans (rInts_length m r) HL.out)
    generalize (rInts m r).1 = o at *
    generalize (rInts m r).2 = r1 at *
    go_enter Try.func30, Try.ntmps30
    go_wp2_with fail
    refine (HP.out _ (HP0.out _)).mono ?_
    rintro e w1 ⟨v, rfl, hO1, hP1, t1⟩
    have hX1 := (HX0.out _).kept t1 (fun e => hBC e.symm)
    have hc1 : w1.cell? ⟨w.heap.size, 1, none⟩ = some (.int .i64 m) := by rw [t1.cell (by simp) (by omega)]; simp
    have hc2 : w1.cell? ⟨w.heap.size, 2, none⟩ = some (.int .i64 e) := by rw [t1.cell (by simp) (by omega)]; simp
    go_wp2_with fail
    refine (HX.out _ hX1).mono ?_
    rintro e w2 ⟨v', rfl, hO2, hXz, t2⟩
    have hPz := hP1.kept t2 hBC
    have hOz := hO1.tch t2 (by simp; omega)
    have hBz := ((Btw.alloc B C w _).p t1 (by simp)).x t2 (Nat.le_trans (by simp) t1.size)
    go_wp2_with fail
    refine (same_any v v' o o _ _ _ _ _ hOz.ints hO2.ints HLen.out).mono ?_
    rw [show decide (o = o) = true from decide_eq_true rfl]
    rintro e w3 ⟨rfl, n3, hw3⟩
    have hPz : RdP B r1 w3 := by rw [hw3]; exact RdP.drewN hPz n3
    have hXz : RdR C S r1 w3 := by rw [hw3]; exact RdR.drewN hXz n3
    have hBz : Btw B C w w3 := by rw [hw3]; exact hBz.drewN n3
    clear hw3
    go_wp2_with fail
    refine (wErr_any B r1 _ hPz).mono ?_
    rintro e w7 ⟨rfl, rfl⟩
    go_wp2_with fail
    refine (xErr_any C S r1 _ hXz).mono ?_
    rintro e w7 ⟨rfl, rfl⟩
    go_wp2_with fail
    refine (wLeft_any B r1 _ hPz).mono ?_
    rintro e w7 ⟨rfl, rfl⟩
    go_wp2_with fail
    refine (xLeft_any C S r1 _ hXz).mono ?_
    rintro e w7 ⟨rfl, n7, rfl⟩
    go_wp2_with fail
    refine (wEnd_any B r1 _ (RdP.drewN hPz n7)).mono ?_
    rintro e w8 ⟨rfl, rfl⟩
    go_wp2_with fail
    refine (xEnd_any C S r1 _ (RdR.drewN hXz n7)).mono ?_
    rintro e w8 ⟨rfl, n8, rfl⟩
    go_wp2_with fail
    go_ret
    exact ⟨rfl, RdP.drewN hPz _, RdR.drewN hXz _, hBz.drewN _⟩
  by_cases g5 : k = 5
  · have hr : rStep k m e r = rFail e r := by unfold rStep; rw [if_neg g0, if_neg g1, if_neg g2, if_neg g3, if_neg g4, if_pos g5]
    rw [hr]; clear hr
    have hk0 : (k == 0) = false := by simpa using g0
    have hk1 : (k == 1) = false := by simpa using g1
    have hk2 : (k == 2) = false := by simpa using g2
    have hk3 : (k == 3) = false := by simpa using g3
    have hk4 : (k == 4) = false := by simpa using g4
    have hk5 : (k == 5) = true := by simpa using g5
    clear g0 g1 g2 g3 g4 g5
    have HP := Lib.hid (fun w h => wFail_any B r e w h)
    have HX := Lib.hid (fun w h => xFail_any C S r e w h)
    generalize rFail e r = r1 at *
    go_enter Try.func30, Try.ntmps30
    go_wp2_with fail
    refine (HP.out _ (HP0.out _)).mono ?_
    rintro e w1 ⟨rfl, hP1, t1⟩
    have hX1 := (HX0.out _).kept t1 (fun e => hBC e.symm)
    have hc1 : w1.cell? ⟨w.heap.size, 1, none⟩ = some (.int .i64 m) := by rw [t1.cell (by simp) (by omega)]; simp
    have hc2 : w1.cell? ⟨w.heap.size, 2, none⟩ = some (.int .i64 e) := by rw [t1.cell (by simp) (by omega)]; simp
    go_wp2_with fail
    refine (HX.out _ hX1).mono ?_
    rintro e w2 ⟨rfl, hXz, t2⟩
    have hPz := hP1.kept t2 hBC
    have hBz := ((Btw.alloc B C w _).p t1 (by simp)).x t2 (Nat.le_trans (by simp) t1.size)
    go_wp2_with fail
    refine (wErr_any B r1 _ hPz).mono ?_
    rintro e w7 ⟨rfl, rfl⟩
    go_wp2_with fail
    refine (xErr_any C S r1 _ hXz).mono ?_
    rintro e w7 ⟨rfl, rfl⟩
    go_wp2_with fail
    refine (wLeft_any B r1 _ hPz).mono ?_
    rintro e w7 ⟨rfl, rfl⟩
    go_wp2_with fail
    refine (xLeft_any C S r1 _ hXz).mono ?_
    rintro e w7 ⟨rfl, n7, rfl⟩
    go_wp2_with fail
    refine (wEnd_any B r1 _ (RdP.drewN hPz n7)).mono ?_
    rintro e w8 ⟨rfl, rfl⟩
    go_wp2_with fail
    refine (xEnd_any C S r1 _ (RdR.drewN hXz n7)).mono ?_
    rintro e w8 ⟨rfl, n8, rfl⟩
    go_wp2_with fail
    go_ret
    exact ⟨rfl, RdP.drewN hPz _, RdR.drewN hXz _, hBz.drewN _⟩
  · have hr : rStep k m e r = r := by unfold rStep; rw [if_neg g0, if_neg g1, if_neg g2, if_neg g3, if_neg g4, if_neg g5]
    rw [hr]; clear hr
    have hk0 : (k == 0) = false := by simpa using g0
    have hk1 : (k == 1) = false := by simpa using g1
    have hk2 : (k == 2) = false := by simpa using g2
    have hk3 : (k == 3) = false := by simpa using g3
    have hk4 : (k == 4) = false := by simpa using g4
    have hk5 : (k == 5) = false := by simpa using g5
    clear g0 g1 g2 g3 g4 g5
    go_enter Try.func30, Try.ntmps30
    have hBz := Btw.alloc B C w (.cells #[.int .i64 k, .int .i64 m, .int .i64 e] 49)
    have hPz := HP0.out (.cells #[.int .i64 k, .int .i64 m, .int .i64 e] 49)
    have hXz := HX0.out (.cells #[.int .i64 k, .int .i64 m, .int .i64 e] 49)
    go_wp2_with fail
    refine (wErr_any B r _ hPz).mono ?_
    rintro e w7 ⟨rfl, rfl⟩
    go_wp2_with fail
    refine (xErr_any C S r _ hXz).mono ?_
    rintro e w7 ⟨rfl, rfl⟩
    go_wp2_with fail
    refine (wLeft_any B r _ hPz).mono ?_
    rintro e w7 ⟨rfl, rfl⟩
    go_wp2_with fail
    refine (xLeft_any C S r _ hXz).mono ?_
    rintro e w7 ⟨rfl, n7, rfl⟩
    go_wp2_with fail
    refine (wEnd_any B r _ (RdP.drewN hPz n7)).mono ?_
    rintro e w8 ⟨rfl, rfl⟩
    go_wp2_with fail
    refine (xEnd_any C S r _ (RdR.drewN hXz n7)).mono ?_
    rintro e w8 ⟨rfl, n8, rfl⟩
    go_wp2_with fail
    go_ret
    exact ⟨rfl, RdP.drewN hPz _, RdR.drewN hXz _, hBz.drewN _⟩
end Go.Proofs.Ytapbmbbghbgkfaa
