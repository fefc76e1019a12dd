/-
  Fragments: what Add returns, the program's, in every way.
-/
import Derived.Test.YtmjamjadfnbkdaaFsf
import Derived.Test.YtmjamjadfnbkdaaFsh
import Derived.Test.YtmjamjadfnbkdaaFsi
import Derived.Test.YtmjamjadfnbkdaaFsj
open Go Go.RowKit Go.Proofs
namespace Go.Proofs.Ytmjamjadfnbkdaa
namespace Hub
theorem findF_neg {l : List Pk} {s i : Int} (h : findF l s i < 0) : findF l s i = -1 := by
  unfold findF at *
  cases e : l.findIdx? (keyIs s i) with
  | none => rfl
  | some k => rw [e] at h; simp only at h; omega
theorem addF_bad {l : List Pk} {src now : Int} {s : ByteArray} (h : chkF s ≠ 0) : addF l src now s = (([], ByteArray.empty, false), chkF s) := by unfold addF; rw [if_pos h]
theorem stage_none {l : List Pk} {src id c : Int} (h : findF l src id = -1) : stage l src id c = (l, -1) := by
  unfold stage; rw [h, if_neg (by omega)]
theorem cnt_getD {l : List Pk} {j : Nat} (hj : j < l.length) : (l.map Pk.cnt).getD ((j : Int).toNat) 0 = l[j].cnt := by
  rw [Int.toNat_natCast, List.getD_eq_getElem?_getD, List.getElem?_map, List.getElem?_eq_getElem hj]; rfl
theorem stage_same {l : List Pk} {src id c : Int} {j : Nat} (h : findF l src id = (j : Int)) (hj : j < l.length) (hc : l[j].cnt = c) : stage l src id c = (l, (j : Int)) := by
  unfold stage; rw [h, cnt_getD hj, if_neg (fun e => e.2 hc)]
theorem stage_turn {l : List Pk} {src id c : Int} {j : Nat} (h : findF l src id = (j : Int)) (hj : j < l.length) (hc : l[j].cnt ≠ c) : stage l src id c = (l.eraseIdx j, -1) := by
  unfold stage; rw [h, cnt_getD hj, if_pos ⟨by omega, hc⟩, Int.toNat_natCast]
theorem addF_one {l : List Pk} {src now : Int} {s : ByteArray} (h : chkF s = 0) (h1 : byI s 2 = 1) : addF l src now s = (((stage (orderF l) src (byI s 0) 1).1, s.extract 3 s.size, true), 0) := by
  unfold addF; rw [if_neg (by simp [h]), h1]; simp
theorem addF_go {l : List Pk} {src now : Int} {s : ByteArray} (h : chkF s = 0) (h1 : byI s 2 ≠ 1) :
    addF l src now s = (goF (stage (orderF l) src (byI s 0) (byI s 2)).1 (stage (orderF l) src (byI s 0) (byI s 2)).2 src (byI s 0) (byI s 2) now (byI s 1).toNat (s.extract 3 s.size), 0) := by
  unfold addF; rw [if_neg (by simp [h]), if_neg h1]
theorem goF_new {l : List Pk} {src id c now : Int} {i : Nat} {d : ByteArray} : goF l (-1) src id c now i d = finF (room l ++ [newP src id c now]) (room l).length i d := by unfold goF; rw [if_pos (by omega)]
theorem goF_old {l : List Pk} {src id c now : Int} {i j : Nat} {d : ByteArray} : goF l (j : Int) src id c now i d = finF l j i d := by unfold goF; rw [if_neg (by omega), Int.toNat_natCast]
theorem room_no {l : List Pk} (h : l.length < 8) : room l = l := by unfold room; rw [if_neg (by omega)]
theorem room_yes {l : List Pk} (h : l.length = 8) : room l = l.eraseIdx 0 := by unfold room; rw [if_pos h]
end Hub
open Hub

/-- What the program's Add returns. -/
theorem add_any (v : Value) (l : List Pt) (lo N : Nat) (src now : Int) (s : ByteArray) (w : World) (hv : PtsAt lo N w v l) (hN : N ≤ w.heap.size) (hl : l.length ≤ 1000) (hs : s.size ≤ 1099511627776) :
    Calls Try.prog 18 #[v, .int .i64 src, .int .i64 now, .string s] w fun e w' => Added w w' e (addF (l.map Pt.pk) src now s).1 (addF (l.map Pt.pk) src now s).2 := by
  by_cases hc : chkF s = 0
  · have hol := orderF_len (l.map Pt.pk)
    by_cases hf : findF (orderF (l.map Pt.pk)) src (byI s 0) < 0
    · have hk := findF_neg hf
      by_cases h1 : byI s 2 = 1
      · rw [addF_one hc h1, stage_none hk]
        exact addOne_any v l lo N src now s w hv hN hl hs hc _ rfl hk h1
      · rw [addF_go hc h1, stage_none hk]
        dsimp only
        rw [goF_new]
        by_cases h8 : (orderF (l.map Pt.pk)).length = 8
        · rw [room_yes h8]
          exact addFull_any v l lo N src now s w hv hN hl hs hc _ rfl hk h8 h1
        · rw [room_no (by omega)]
          exact addNew_any v l lo N src now s w hv hN hl hs hc _ rfl hk (by omega) h1
    · obtain ⟨j, hk, hj, _⟩ := findF_range hf
      by_cases h1 : byI s 2 = 1
      · have hval := orderF_valid (l.map Pt.pk) _ (List.getElem_mem hj)
        obtain ⟨nn, q2, _, _, _, qc⟩ := validF_len hval
        rw [addF_one hc h1, stage_turn hk hj (by rw [qc]; omega)]
        exact addOneT_any v l lo N src now s w hv hN hl hs hc _ rfl j hk hj h1
      · rw [addF_go hc h1]
        by_cases hcn : (orderF (l.map Pt.pk))[j].cnt = byI s 2
        · rw [stage_same hk hj hcn]
          dsimp only
          rw [goF_old]
          exact addOld_any v l lo N src now s w hv hN hl hs hc _ rfl j hk hj hcn h1
        · rw [stage_turn hk hj hcn]
          dsimp only
          rw [goF_new, room_no (by rw [List.length_eraseIdx, if_pos hj]; omega)]
          exact addTurn_any v l lo N src now s w hv hN hl hs hc _ rfl j hk hj hcn h1
  · rw [addF_bad hc]
    exact addBad_any v src now s w hs hc
end Go.Proofs.Ytmjamjadfnbkdaa
