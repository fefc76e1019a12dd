/-
  The walk of the reader's reading of a list, the program's.
-/
import Derived.Test.YtbbfbeacgnimpaaWirE
import Derived.Deep.LoopGhost
open Go Go.RowKit Go.Proofs
namespace Go.Proofs.Ytbbfbeacgnimpaa
namespace Hub
theorem int_info : (Try.prog.info? 3).map (fun i => (i.zero, i.size, i.bytes)) = some (some (.int .i64 0), 1, 8) := by kernel_rfl
/-- v is a slice of the call's own, from block 'base' on (or nil), that holds the numbers l. -/
def OwnI (w : World) (base : Nat) (v : Value) (l : List Int) : Prop := w.ownsRow base 3 1 v l.length (l.map fun x => Value.int .i64 x)
theorem OwnI.nil (w : World) (base : Nat) : OwnI w base (.slice none 0 0) [] := World.ownsRow_nil w base _ _
theorem OwnI.alloc {w : World} {base : Nat} {v : Value} {l : List Int} (h : OwnI w base v l) (o : Obj) : OwnI (w.alloc o) base v l := World.ownsRow.alloc h o
theorem OwnI.tch {w w' : World} {base B : Nat} {v : Value} {l : List Int} (h : OwnI w base v l) (k : Tch B w w') (hB : B < base) : OwnI w' base v l := by
  refine World.ownsRow.kept h k ?_
  cases hv : v.ownBlock with
  | none => exact .inl rfl
  | some g => exact .inr (by have := (World.ownsRow.lt h g hv).1; intro e; cases e; omega)
theorem OwnI.below {w w' : World} {base N : Nat} {v : Value} {l : List Int} (h : OwnI w base v l) (hb : Below N w w') (hN : w.heap.size ≤ N) : OwnI w' base v l := by
  refine World.ownsRow.kept (row := none) h ⟨hb.os, hb.tape, hb.output, hb.size, fun k hk _ => hb.block k (by omega)⟩ ?_
  cases hv : v.ownBlock with
  | none => exact .inl rfl
  | some k => exact .inr (by simp)
theorem OwnI.base {w : World} {b c : Nat} {v : Value} {l : List Int} (h : OwnI w c v l) (hb : b ≤ c) : OwnI w b v l :=
  ⟨h.1, h.2.imp id fun ⟨g, cap, cur, hv, hg, r⟩ => ⟨g, cap, cur, hv, Nat.le_trans hb hg, r⟩⟩
theorem OwnI.ints {w : World} {base : Nat} {v : Value} {l : List Int} (h : OwnI w base v l) : IntsAt base w.heap.size w v l := by
  rcases h.2 with ⟨hv, h0⟩ | ⟨g, cap, cur, hv, hb, hg, _⟩
  · have : l = [] := List.length_eq_zero_iff.1 h0
    subst this
    exact ⟨none, 0, hv, fun h => absurd rfl h⟩
  · refine ⟨some ⟨g, 0, none⟩, cap, hv, fun _ => ⟨g, 0, rfl, hb, (Array.getElem?_eq_some_iff.1 hg).1, fun i hi => ?_⟩⟩
    subst hv
    have := World.ownsRow.cellAt h i (by omega)
    rw [Nat.zero_add, this]
    simp [List.getElem?_eq_getElem hi]
theorem Tch.grown {B : Nat} {w a c : World} {row : Option Nat} (h : Tch B w a) (k : a.grownBy c row) (hr : ∀ g, row = some g → w.heap.size ≤ g) : Tch B w c :=
  ⟨k.os.trans h.os, k.tape.trans h.tape, k.output.trans h.output, Nat.le_trans h.size k.size, fun i hi hn => (k.block i (Nat.lt_of_lt_of_le hi h.size) (by intro e; have := hr i e.symm; omega)).trans (h.block i hi hn)⟩
theorem RdP.grown {B : Nat} {r : Rs} {w w' : World} {row : Option Nat} (h : RdP B r w) (k : w.grownBy w' row) (hr : row ≠ some B) : RdP B r w' := ⟨by rw [k.block B h.lt (fun e => hr e.symm)]; exact h.1, h.2⟩
end Hub
open Hub

set_option maxHeartbeats 1000000 in
theorem wTimes_any (B : Nat) (r : Rs) (n : Nat) (w : World) (h : RdP B r w) (hn : n ≤ 1099511627776) :
    Calls Try.prog 60 #[.int .i64 n, .func (Fn.func 38) #[.pointer (some ⟨B, 0, none⟩)] #[]] w fun e w' => ∃ v, e = .returned v ∧ OwnI w' w.heap.size v (rMany n r).1 ∧ RdP B (rMany n r).2 w' ∧ Tch B w w' := by
  obtain ⟨i0, hi, hz0, hz1, hz2⟩ := info_parts int_info
  have hBw := h.lt
  go_enter Try.func60, Try.ntmps60
  go_wp2_with fail
  go_loopw [5, 7] (fun v i wr => ∃ k : Nat, k ≤ n ∧ i = .int .i64 k ∧ OwnI wr w.heap.size v (rMany k r).1 ∧ RdP B (rMany k r).2 wr ∧ Tch B w wr) (fun _ i _ => n - (intOf i).toNat)
  case atStart => exact ⟨0, Nat.zero_le _, rfl, OwnI.nil _ _, h, Tch.refl _ _⟩
  case round =>
    obtain ⟨k, hk, rfl, hown, hrd, ht⟩ := hrel
    by_cases hlt : k < n
    · have HS := Lib.hid (rMany_succ k r)
      have HL := Lib.hid (rMany_length k r)
      generalize rMany k r = o at *
      go_wp2_with fail
      refine (wrInt_any B o.2 _ hrd).mono ?_
      rintro e w3 ⟨rfl, hrd3, ht3⟩
      have hown3 := hown.tch ht3 hBw
      have HB3 := Lib.hid ht3.size
      have HB := Lib.hid ht.size
      generalize (rInt o.2).1 = x at *
      generalize (rInt o.2).2 = r3 at *
      go_wp2_with (at_builtin; refine wpList_append_own _ rfl _ _ 22 rfl w.heap.size 3 i0 (.int .i64 0) 1 8 Try.underlying22 hi hz0 hz1 hz2 rfl (by decide) _ _ _ rfl (OwnI.alloc hown3 _) ⟨w3.heap.size, 0, none⟩ 1 1 [.int .i64 x] rfl rfl ?c1 ?c2 ?c3 ?c4 ?c5 ?_)
      case c1 =>
        intro j u hj
        match j, hj with
        | 0, hj => simp at hj; subst hj; simp [Addr.add]
      case c2 => intro u hu; simp at hu; subst hu; rfl
      case c3 => rw [HL.out]; unfold maxLen; omega
      case c4 => rw [HL.out]; omega
      case c5 => have := HB3.out; have := HB.out; simp; omega
      intro v' w4 hown' hgrow _
      go_wp2_with fail
      go_roundw
      case rel =>
        have hne : u5.ownBlock ≠ some B := by
          intro e
          have := (World.ownsRow.lt hown3 B e).1
          omega
        refine ⟨k + 1, by omega, by go_num, ?_, ?_, ?_⟩
        · rw [HS.out]
          unfold OwnI
          rw [List.length_append, List.map_append]; exact hown'
        · rw [HS.out]
          refine RdP.grown (RdP.below hrd3 ((Below.refl w3.heap.size _).alloc (Nat.le_refl _) _) hrd3.lt) hgrow hne
        · exact ((ht.trans ht3).alloc _).grown hgrow fun g hg => (World.ownsRow.lt hown3 g hg).1
      case measure => simp [intOf]; omega
    · obtain rfl : k = n := by omega
      go_wp2_with fail
      go_ret
      exact ⟨_, rfl, hown, hrd, ht⟩

set_option maxHeartbeats 1000000 in
theorem wrInts_any (B : Nat) (r : Rs) (m : Int) (w : World) (h : RdP B r w) :
    Calls Try.prog 39 #[.pointer (some ⟨B, 0, none⟩), .int .i64 m] w fun e w' => ∃ v, e = .returned v ∧ OwnI w' w.heap.size v (rInts m r).1 ∧ RdP B (rInts m r).2 w' ∧ Tch B w w' := by
  have HI := Lib.hid (fun w h => wrCount_any B r m w h)
  have hcd : rInts m r = if (rMany (rCount m r).1.toNat (rCount m r).2).2.err ≠ 0 then ([], (rMany (rCount m r).1.toNat (rCount m r).2).2) else rMany (rCount m r).1.toNat (rCount m r).2 := rfl
  have hn0 := rCount_nonneg m r
  generalize rInts m r = o at *
  generalize (rCount m r).1 = n at *
  generalize (rCount m r).2 = r1 at *
  obtain ⟨k, rfl⟩ := Int.eq_ofNat_of_zero_le hn0
  rw [Int.toNat_natCast] at hcd
  by_cases hb : rLeft r1 < k
  · have HL := Lib.hid (fun w h => wLeft_any B r1 w h)
    have hbad : (rMany k r1).2.err ≠ 0 := by
      rw [rLeft] at hb
      split at hb
      · rename_i he; rw [rMany_bad k r1 he]; exact he
      · rw [rTill_many]; exact rTill_err k r1 (by omega)
    rw [if_pos hbad] at hcd
    have hTill := rTill_many k r1
    have HCD := Lib.hid hcd
    have HBad := Lib.hid hbad
    have HT := Lib.hid hTill
    clear hcd hbad hTill
    generalize hL : rLeft r1 = L at *
    clear hL
    go_enter Try.func39, Try.ntmps39
    go_wp2_with fail
    refine (HI.out _ h).mono ?_
    rintro e w1 ⟨rfl, h1, hk1⟩
    go_wp2_with fail
    refine (HL.out _ h1).mono ?_
    rintro e w2 ⟨rfl, rfl⟩
    go_wp2_with fail
    go_loopg [] k (fun g wr => ∃ r', RdP B r' wr ∧ Tch B w wr ∧ rTill g r' = rTill k r1)
    case atStart => exact ⟨r1, h1, hk1, rfl⟩
    case round =>
      obtain ⟨r', hr', ht', hg⟩ := hrel
      have HG := Lib.hid hg
      clear hg
      by_cases he : r'.err = 0
      · have heb : (r'.err == 0) = true := by simpa using he
        cases gk with
        | zero =>
          exfalso
          have h1 : r' = rTill k r1 := HG.out
          rw [← HT.out] at h1
          rw [h1] at he
          exact HBad.out he
        | succ g =>
          have hg2 : rTill g (rInt r').2 = rTill k r1 := by
            have := HG.out
            rw [rTill, if_neg (by omega)] at this
            exact this
          have HG2 := Lib.hid hg2
          clear hg2 he
          go_wp2_with (go_at_call 56; refine (wErr_any B r' _ hr').mono ?_; rintro e w2 ⟨rfl, rfl⟩)
          refine (wrInt_any B r' _ hr').mono ?_
          rintro e w3 ⟨rfl, hr3, ht3⟩
          go_wp2_with fail
          go_roundg g
          case measure => omega
          case rel => exact ⟨_, hr3, ht'.trans ht3, HG2.out⟩
      · have heb : (r'.err == 0) = false := by simpa using he
        have hfin : rTill gk r' = r' := by
          cases gk with
          | zero => rfl
          | succ g => rw [rTill, if_pos he]
        have hst : (rMany k r1).2 = r' := by rw [HT.out, ← HG.out, hfin]
        have HST := Lib.hid hst
        clear he hfin hst
        go_wp2_with (go_at_call 56; refine (wErr_any B r' _ hr').mono ?_; rintro e w2 ⟨rfl, rfl⟩)
        go_ret
        refine ⟨_, rfl, ?_, ?_, ht'⟩
        · rw [HCD.out]; exact OwnI.nil _ _
        · rw [HCD.out, HST.out]; exact hr'
  · have HL := Lib.hid (fun w h => wLeft_any B r1 w h)
    have hkl : ∀ w, RdP B r1 w → k ≤ 1099511627776 := by
      intro w hr
      have := hr.2
      rw [rLeft] at hb
      split at hb <;> omega
    have HK := Lib.hid hkl
    clear hkl
    generalize hL : rLeft r1 = L at *
    clear hL
    by_cases he : (rMany k r1).2.err = 0
    · rw [if_neg (by omega)] at hcd
      subst hcd
      have heb : ((rMany k r1).2.err != 0) = false := by simpa using he
      clear he
      have HM := Lib.hid (fun w h => wTimes_any B r1 k w h (HK.out _ h))
      generalize rMany k r1 = o at *
      go_enter Try.func39, Try.ntmps39
      go_wp2_with fail
      refine (HI.out _ h).mono ?_
      rintro e w1 ⟨rfl, h1, hk1⟩
      go_wp2_with fail
      refine (HL.out _ h1).mono ?_
      rintro e w2 ⟨rfl, rfl⟩
      go_wp2_with fail
      refine (HM.out _ h1).mono ?_
      rintro e w3 ⟨v, rfl, hown3, h3, hk3⟩
      go_wp2_with (go_at_call 56; refine (wErr_any B o.2 _ h3).mono ?_; rintro e w2 ⟨rfl, rfl⟩)
      go_ret
      exact ⟨_, rfl, hown3.base hk1.size, h3, hk1.trans hk3⟩
    · rw [if_pos he] at hcd
      subst hcd
      have heb : ((rMany k r1).2.err != 0) = true := by simpa using he
      clear he
      have HM := Lib.hid (fun w h => wTimes_any B r1 k w h (HK.out _ h))
      generalize rMany k r1 = o at *
      go_enter Try.func39, Try.ntmps39
      go_wp2_with fail
      refine (HI.out _ h).mono ?_
      rintro e w1 ⟨rfl, h1, hk1⟩
      go_wp2_with fail
      refine (HL.out _ h1).mono ?_
      rintro e w2 ⟨rfl, rfl⟩
      go_wp2_with fail
      refine (HM.out _ h1).mono ?_
      rintro e w3 ⟨v, rfl, hown3, h3, hk3⟩
      go_wp2_with (go_at_call 56; refine (wErr_any B o.2 _ h3).mono ?_; rintro e w2 ⟨rfl, rfl⟩)
      go_ret
      exact ⟨_, rfl, OwnI.nil _ _, h3, hk1.trans hk3⟩
end Go.Proofs.Ytbbfbeacgnimpaa
