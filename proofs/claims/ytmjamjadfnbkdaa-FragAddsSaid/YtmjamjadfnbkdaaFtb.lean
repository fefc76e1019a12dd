/-
  Fragments: what Add returns, the reference's, in every way; the walk of the law on Add.
-/
import Derived.Test.YtmjamjadfnbkdaaFsx
import Derived.Test.YtmjamjadfnbkdaaFsy
import Derived.Test.YtmjamjadfnbkdaaFsz
import Derived.Test.YtmjamjadfnbkdaaFta
import Derived.Test.YtmjamjadfnbkdaaFsv
open Go Go.RowKit Go.Proofs
namespace Go.Proofs.Ytmjamjadfnbkdaa
open Hub

/-- What the reference's Add returns. -/
theorem xAdd_any (v : Value) (l : List Pt) (lo N : Nat) (src now : Int) (s : ByteArray) (w : World) (hv : PtsAt lo N w v l) (hN : N ≤ w.heap.size) (hl : l.length ≤ 1000) (hs : s.size ≤ 1099511627776) :
    Calls Try.prog 19 #[v, .int .i64 src, .int .i64 now, .string s] w fun e w' => Added w w' e (addF (l.map Pt.pk) src now s).1 (addF (l.map Pt.pk) src now s).2 := by
  by_cases hc : chkF s = 0
  · have hol := orderF_len (l.map Pt.pk)
    by_cases hf : findF (orderF (l.map Pt.pk)) src (byI s 0) < 0
    · have hk := findF_neg hf
      by_cases h1 : byI s 2 = 1
      · rw [addF_one hc h1, stage_none hk]
        exact xAddOne_any v l lo N src now s w hv hN hl hs hc _ rfl hk h1
      · rw [addF_go hc h1, stage_none hk]
        dsimp only
        rw [goF_new]
        by_cases h8 : (orderF (l.map Pt.pk)).length = 8
        · rw [room_yes h8]
          exact xAddFull_any v l lo N src now s w hv hN hl hs hc _ rfl hk h8 h1
        · rw [room_no (by omega)]
          exact xAddNew_any v l lo N src now s w hv hN hl hs hc _ rfl hk (by omega) h1
    · obtain ⟨j, hk, hj, _⟩ := findF_range hf
      by_cases h1 : byI s 2 = 1
      · have hval := orderF_valid (l.map Pt.pk) _ (List.getElem_mem hj)
        obtain ⟨nn, q2, _, _, _, qc⟩ := validF_len hval
        rw [addF_one hc h1, stage_turn hk hj (by rw [qc]; omega)]
        exact xAddOneT_any v l lo N src now s w hv hN hl hs hc _ rfl j hk hj h1
      · rw [addF_go hc h1]
        by_cases hcn : (orderF (l.map Pt.pk))[j].cnt = byI s 2
        · rw [stage_same hk hj hcn]
          dsimp only
          rw [goF_old]
          exact xAddOld_any v l lo N src now s w hv hN hl hs hc _ rfl j hk hj hcn h1
        · rw [stage_turn hk hj hcn]
          dsimp only
          rw [goF_new, room_no (by rw [List.length_eraseIdx, if_pos hj]; omega)]
          exact xAddTurn_any v l lo N src now s w hv hN hl hs hc _ rfl j hk hj hcn h1
  · rw [addF_bad hc]
    exact xAddBad_any v src now s w hs hc
end Go.Proofs.Ytmjamjadfnbkdaa
