/-
  The walks of what stores a block and tells what is missing, the program's.
-/
import Derived.Test.YtbbfbeacgnimpaaFirF
open Go Go.RowKit Go.Proofs
namespace Go.Proofs.Ytbbfbeacgnimpaa
namespace Hub
theorem verB_range {l : List Int} {i : Int} {b : ByteArray} (h : verB l i b = 0) : 0 ≤ i ∧ i < l.length := by
  rw [verB] at h
  split at h
  · simp at h
  · rename_i h1; omega
theorem putF_bad {f : Fw} {h : List Bool} {b : List ByteArray} {i : Int} {x : ByteArray} (e : verF f i x ≠ 0) : putF f h b i x = ([], [], verF f i x) := by rw [putF, if_pos e]
theorem putF_good {f : Fw} {h : List Bool} {b : List ByteArray} {i : Int} {x : ByteArray} (e : ¬ verF f i x ≠ 0) : putF f h b i x = ((haveL f.sums.length h b).set i.toNat true, (dataL f.sums.length h b).set i.toNat x, 0) := by rw [putF, if_neg e]
end Hub
open Hub

set_option maxHeartbeats 1000000 in
theorem put_any (f : Fw) (v vh vb : Value) (lo N : Nat) (h : List Bool) (b : List ByteArray) (i : Int) (x : ByteArray) (w : World) (hv : IntsAt lo N w v f.sums) (hh : BoolsAt lo N w vh h) (hb : StrsAt lo N w vb b) (hN : N ≤ w.heap.size)
    (hl : f.sums.length ≤ 1099511627776) (hx : x.size ≤ 1099511627776) :
    Calls Try.prog 24 #[fwv f v, vh, vb, .int .i64 i, .string x] w fun e w' => ∃ v1 v2, e = .returned (.tuple #[v1, v2, .int .i64 (putF f h b i x).2.2]) ∧
      BoolsAt w.heap.size w'.heap.size w' v1 (putF f h b i x).1 ∧ StrsAt w.heap.size w'.heap.size w' v2 (putF f h b i x).2.1 ∧ Below w.heap.size w w' := by
  have HV := Lib.hid (fun w' (k : Below w.heap.size w w') => verF_any f v lo N i x w' (hv.below k hN) (Nat.le_trans hN k.size) hl hx)
  have HS := Lib.hid (fun w' (k : Below w.heap.size w w') hn => stored_any f v vh vb lo N h b w' (hv.below k hN) (hh.below k hN) (hb.below k hN) (Nat.le_trans hN k.size) hn hl)
  obtain ⟨ah, caph, rfl, _, _⟩ := hh
  obtain ⟨ab, capb, rfl, _, _⟩ := hb
  unfold fwv at *
  by_cases he : verF f i x = 0
  · have heb : (verF f i x != 0) = false := by simpa using he
    rw [putF_good (by simpa using he)]
    have hz : chkF f = 0 := by
      by_cases hz : chkF f = 0
      · exact hz
      · rw [verF_bad hz] at he; exact he
    have hvb := he
    rw [verF_zero hz] at hvb
    obtain ⟨hi0, hi1⟩ := verB_range hvb
    obtain ⟨k, rfl⟩ := Int.eq_ofNat_of_zero_le hi0
    rw [Int.toNat_natCast]
    have hk : k < f.sums.length := by omega
    have hlH := haveL_length f.sums.length h b
    have hlD := dataL_length f.sums.length h b
    generalize haveL f.sums.length h b = H at *
    generalize dataL f.sums.length h b = D at *
    obtain ⟨n, hn⟩ : ∃ n, f.sums.length = n := ⟨_, rfl⟩
    rw [hn] at HS hk hlH hlD hl
    clear he hvb hz hi0 hi1 hv
    go_enter Try.func24, Try.ntmps24
    go_wp2_with fail
    refine (HV.out _ (below_box w _)).mono ?_
    rintro e w1 ⟨rfl, hb1⟩
    obtain ⟨c0, c1, c2, _, hb2, hs⟩ := box3 hb1
    clear hb1
    go_wp2_with fail
    refine (HS.out _ hb2 (by omega)).mono ?_
    rintro e w2 ⟨g1, g2, rfl, hR1, hR2, hg1, hg2, hne, hb3⟩
    clear c0 c1 c2
    have hc1 := hR1.cell k (by rw [List.length_map, hlH]; exact hk)
    have hf1 := hR1.froz k
    have hki : (k : Int) < (n : Int) := by omega
    have hR1' := hR1.set k (.bool true)
    have hT1 : Tch g1 w2 (w2.setCell ⟨g1, k, none⟩ (.bool true)) := (Tch.refl _ _).setCell k _
    have hR2' := hR2.tch hT1 hne.symm
    have hc2 := hR2'.cell k (by rw [List.length_map, hlD]; exact hk)
    have hf2 := hR2'.froz k
    have hw2 := hb2.trans (hb3.mono hb2.size)
    have hw3 := tch_new hw2 hT1 (by omega) (Nat.le_refl _)
    have hR2'' := hR2'.set k (.string x)
    have hT2 : Tch g2 (w2.setCell ⟨g1, k, none⟩ (.bool true)) ((w2.setCell ⟨g1, k, none⟩ (.bool true)).setCell ⟨g2, k, none⟩ (.string x)) := (Tch.refl _ _).setCell k _
    have hR1'' := hR1'.tch hT2 hne
    have hw4 := tch_new hw3 hT2 (by omega) (Nat.le_refl _)
    clear hT1 hT2 hR1' hR2' hw2 hw3
    have e1 : (H.map Value.bool).set k (.bool true) = (H.set k true).map Value.bool := by rw [List.map_set]
    have e2 : (D.map Value.string).set k (.string x) = (D.set k x).map Value.string := by rw [List.map_set]
    rw [e1] at hR1''
    rw [e2] at hR2''
    have HF1 := Lib.hid (hR1''.bools (n := n) (lo := w.heap.size) (by rw [List.length_set]; exact hlH) (by omega))
    have HF2 := Lib.hid (hR2''.strs (n := n) (lo := w.heap.size) (by rw [List.length_set]; exact hlD) (by omega))
    have HW4 := Lib.hid hw4
    clear e1 e2 hR1'' hR2'' hw4 hR1 hR2 hb3
    go_wp2_with fail
    refine bodyPost_ret (v := .tuple #[.slice (some ⟨g1, 0, none⟩) n n, .slice (some ⟨g2, 0, none⟩) n n, .int .i64 0]) ?_ rfl ⟨_, _, rfl, HF1.out, HF2.out, HW4.out⟩
    simp [results, Try.results24, go_sem]
  · have heb : (verF f i x != 0) = true := by simpa using he
    rw [putF_bad he]
    clear he hv HS
    go_enter Try.func24, Try.ntmps24
    go_wp2_with fail
    refine (HV.out _ (below_box w _)).mono ?_
    rintro e w1 ⟨rfl, hb1⟩
    obtain ⟨c0, c1, c2, _, hb2, hs⟩ := box3 hb1
    clear hb1
    go_wp2_with fail
    refine bodyPost_ret (v := .tuple #[.slice none 0 0, .slice none 0 0, .int .i64 (verF f i x)]) ?_ rfl ⟨_, _, rfl, BoolsAt.nil _ _ _, StrsAt.nil _ _ _, hb2⟩
    simp [results, Try.results24, go_sem]
end Go.Proofs.Ytbbfbeacgnimpaa
