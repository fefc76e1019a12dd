/-
  The reference's walk of what describes an image.
-/
import Derived.Test.YtbbfbeacgnimpaaFirP
import Derived.Test.YtbbfbeacgnimpaaFirE
import Derived.Test.YtbbfbeacgnimpaaFirI
open Go Go.RowKit Go.Proofs
namespace Go.Proofs.Ytbbfbeacgnimpaa
namespace Hub
theorem blk_cut2 (s : ByteArray) (k : Nat) (h : 64 * k + 64 ≤ s.size) :
    (s.extract (64 * k) s.size).extract 0 64 = blk s k ∧ (s.extract (64 * k) s.size).extract 64 (s.extract (64 * k) s.size).size = s.extract (64 * (k + 1)) s.size := by
  have hz : (s.extract (64 * k) s.size).size = s.size - 64 * k := by rw [ByteArray.size_extract]; omega
  refine ⟨bl_inj ?_, bl_inj ?_⟩
  · rw [bl_take, bl_drop, blk, bl_extract, show min (64 * (k + 1)) s.size - 64 * k = 64 by omega]
  · rw [bl_drop, bl_drop, bl_drop, List.drop_drop, show 64 * k + 64 = 64 * (k + 1) by omega]
theorem blk_last (s : ByteArray) (k : Nat) (h : s.size ≤ 64 * k + 64) : s.extract (64 * k) s.size = blk s k := by
  rw [blk, show min (64 * (k + 1)) s.size = s.size by omega]
end Hub
open Hub

set_option maxHeartbeats 1000000 in
theorem xMake_any (ven ver : Int) (s : ByteArray) (w : World) (hs : s.size ≤ 1099511627776) :
    Calls Try.prog 21 #[.int .i64 ven, .int .i64 ver, .string s] w fun e w' => ∃ v u, e = .returned (.tuple #[fwv (makeF ven ver s).1 v, u, .int .i64 (makeF ven ver s).2.2]) ∧ IntsAt w.heap.size w'.heap.size w' v (makeF ven ver s).1.sums ∧ StrsAt w.heap.size w'.heap.size w' u (makeF ven ver s).2.1 ∧ Below w.heap.size w w' := by
  obtain ⟨i0, hi, hz0, hz1, hz2⟩ := info_parts int_info
  obtain ⟨j0, hj, hy0, hy1, hy2⟩ := info_parts str_info
  have hQ0 : Fb w.heap.size (.int .i64 0) (.int .i64 0) (.slice none 0 0) (w.alloc (.cells #[.int .i64 0, .int .i64 0, .slice none 0 0] 24)) := heap_alloc_new w _
  have hw0 := below_box w (.cells #[.int .i64 0, .int .i64 0, .slice none 0 0] 24)
  by_cases h1 : namedF ven ver = false
  · rw [makeF_e1 h1]
    have hq : ven < 0 ∨ (¬ ven < 0 ∧ 255 < ven) ∨ (¬ ven < 0 ∧ ¬ 255 < ven ∧ ver < 1) ∨ (¬ ven < 0 ∧ ¬ 255 < ven ∧ ¬ ver < 1 ∧ 65535 < ver) := by
      simp [namedF] at h1; omega
    clear h1
    have f0 := hQ0.f 0
    have f1 := hQ0.f 1
    have f2 := hQ0.f 2
    rcases hq with q1 | ⟨q1, q2⟩ | ⟨q1, q2, q3⟩ | ⟨q1, q2, q3, q4⟩
    all_goals
      go_enter Try.func21, Try.ntmps21
      go_wp2_with fail
      refine bodyPost_ret (v := .tuple #[fwv noFw (.slice none 0 0), .slice none 0 0, .int .i64 2]) ?_ rfl ⟨_, _, rfl, IntsAt.none _ _ _, StrsAt.nil _ _ _, hw0⟩
      simp [results, Try.results21, go_sem, fwv, noFw, hQ0.c0, hQ0.c1, hQ0.c2]
  · have hnb : ¬ ven < 0 ∧ ¬ 255 < ven ∧ ¬ ver < 1 ∧ ¬ 65535 < ver := by
      have := namedF_bounds (by simpa using h1); omega
    obtain ⟨q1, q2, q3, q4⟩ := hnb
    by_cases h2 : s.size = 0
    · rw [makeF_e2 h1 h2]
      obtain rfl := empty_of h2
      clear h1
      go_enter Try.func21, Try.ntmps21
      go_wp2_with fail
      refine bodyPost_ret (v := .tuple #[fwv noFw (.slice none 0 0), .slice none 0 0, .int .i64 5]) ?_ rfl ⟨_, _, rfl, IntsAt.none _ _ _, StrsAt.nil _ _ _, hw0⟩
      simp [results, Try.results21, go_sem, fwv, noFw, hQ0.c0, hQ0.c1, hQ0.c2]
    · have hne := nempty_of h2
      have hne2 := nempty_is h2
      by_cases h3 : 4096 < s.size
      · rw [makeF_e3 h1 h2 h3]
        have h3i : (4096 : Int) < (s.size : Int) := by omega
        clear h1 h2 h3 hs
        go_enter Try.func21, Try.ntmps21
        go_wp2_with fail
        refine bodyPost_ret (v := .tuple #[fwv noFw (.slice none 0 0), .slice none 0 0, .int .i64 3]) ?_ rfl ⟨_, _, rfl, IntsAt.none _ _ _, StrsAt.nil _ _ _, hw0⟩
        simp [results, Try.results21, go_sem, fwv, noFw, hQ0.c0, hQ0.c1, hQ0.c2]
      · rw [makeF_e4 h1 h2 h3]
        have h3i : ¬ (4096 : Int) < (s.size : Int) := by omega
        clear h1
        go_enter Try.func21, Try.ntmps21
        go_wp2_with fail
        have hQ1 : Fb w.heap.size (.int .i64 0) (.int .i64 0) (.slice none 0 0) ((w.alloc (.cells #[.int .i64 0, .int .i64 0, .slice none 0 0] 24)).alloc (.cells #[.int .i64 ven, .int .i64 ver, .slice none 0 0] 24)) := hQ0.below (below_box _ _) hQ0.lt
        have hF1 : Fb (w.heap.size + 1) (.int .i64 ven) (.int .i64 ver) (.slice none 0 0) ((w.alloc (.cells #[.int .i64 0, .int .i64 0, .slice none 0 0] 24)).alloc (.cells #[.int .i64 ven, .int .i64 ver, .slice none 0 0] 24)) := by
          have := heap_alloc_new (w.alloc (.cells #[.int .i64 0, .int .i64 0, .slice none 0 0] 24)) (.cells #[.int .i64 ven, .int .i64 ver, .slice none 0 0] 24)
          simpa [Fb] using this
        have hw1 : Below w.heap.size w ((w.alloc (.cells #[.int .i64 0, .int .i64 0, .slice none 0 0] 24)).alloc (.cells #[.int .i64 ven, .int .i64 ver, .slice none 0 0] 24)) := hw0.trans ((below_box _ _).mono (by simp))
        have hW1s : ((w.alloc (.cells #[.int .i64 0, .int .i64 0, .slice none 0 0] 24)).alloc (.cells #[.int .i64 ven, .int .i64 ver, .slice none 0 0] 24)).heap.size = w.heap.size + 2 := by simp
        generalize (w.alloc (.cells #[.int .i64 0, .int .i64 0, .slice none 0 0] 24)).alloc (.cells #[.int .i64 ven, .int .i64 ver, .slice none 0 0] 24) = W1 at *
        clear hQ0 hw0
        have hnb : nblk s = (s.size + 63) / 64 := rfl
        have HW1 := Lib.hid hW1s
        clear hW1s
        go_loopw [2, 10] (fun d u wr => ∃ (k : Nat), d = .string (s.extract (64 * k) s.size) ∧ 64 * k < s.size ∧ OwnS wr (w.heap.size + 2) u (blksN s k) ∧ Below (w.heap.size + 2) W1 wr) (fun d _ _ => vsize d)
        case atStart => exact ⟨0, by rw [Nat.mul_zero]; simp, by omega, OwnS.nil _ _, Below.refl _ _⟩
        case round =>
          obtain ⟨k, rfl, hk, hS, hb⟩ := hrel
          have hKs : (s.extract (64 * k) s.size).size = s.size - 64 * k := by rw [ByteArray.size_extract]; omega
          have hsz := hb.size
          rw [HW1.out] at hsz
          have hbs := blk_size s k
          have hsuc := blksN_succ s k
          have hlen := blksN_length s k
          by_cases hlt : 64 < (s.extract (64 * k) s.size).size
          · obtain ⟨b2, b3⟩ := blk_cut2 s k (by omega)
            have HS := Lib.hid hS
            have HSuc := Lib.hid hsuc
            have HLen := Lib.hid hlen
            have HB := Lib.hid b2
            have HR := Lib.hid b3
            have HKs := Lib.hid hKs
            have hKi : (64 : Int) < ((s.extract (64 * k) s.size).size : Int) := by omega
            clear b2 b3 hS hsuc hlen hKs
            generalize s.extract (64 * k) s.size = K at *
            go_wp2_with (at_builtin; refine wpList_append_own _ rfl _ _ 34 rfl (w.heap.size + 2) 9 j0 (.string ByteArray.empty) 1 16 Try.underlying34 hj hy0 hy1 hy2 rfl (by decide) _ _ _ rfl (OwnS.alloc HS.out _) ⟨wr.heap.size, 0, none⟩ 1 1 [.string (K.extract 0 64)] rfl rfl ?c1 ?c2 ?c3 ?c4 ?c5 ?_)
            case c1 =>
              intro j u hj
              match j, hj with
              | 0, hj => simp at hj; subst hj; simp [Addr.add]
            case c2 => intro u hu; simp at hu; subst hu; rfl
            case c3 => rw [HLen.out]; unfold maxLen; omega
            case c4 => rw [HLen.out]; omega
            case c5 => simp; omega
            intro v' w4 hown' hgrow _
            have hS4 : OwnS w4 (w.heap.size + 2) v' (blksN s (k + 1)) := by
              rw [HB.out] at hown'
              unfold OwnS
              rw [HSuc.out, List.length_append, List.map_append]; exact hown'
            have hb4 : Below (w.heap.size + 2) W1 w4 := (hb.alloc (by omega) _).grown hgrow (by simp; omega) (fun m hm => by have := (World.ownsRow.lt HS.out m hm).1; omega)
            have HS4 := Lib.hid hS4
            have HB4 := Lib.hid hb4
            clear hS4 hb4 hown' hgrow
            go_wp2_with fail
            go_roundw
            case rel => exact ⟨k + 1, by rw [HR.out], by have := HKs.out; omega, HS4.out, HB4.out⟩
            case measure =>
              show (K.extract 64 K.size).size < K.size
              rw [ByteArray.size_extract]; omega
          · have hKi : ¬ (64 : Int) < ((s.extract (64 * k) s.size).size : Int) := by omega
            have hlast := blk_last s k (by omega)
            have hnk : nblk s = k + 1 := by omega
            have hbl : blks s = blksN s (k + 1) := by rw [blks, hnk]
            have HLast := Lib.hid hlast
            have HS := Lib.hid hS
            have HSuc := Lib.hid hsuc
            have HLen := Lib.hid hlen
            have HBl := Lib.hid hbl
            have hk64 : k + 1 ≤ 64 := by omega
            clear hS hsuc hlen hKs hlast hbl hnb hnk
            generalize s.extract (64 * k) s.size = K at *
            go_wp2_with (at_builtin; refine wpList_append_lies _ rfl _ _ 34 rfl (w.heap.size + 2) 9 j0 (.string ByteArray.empty) 1 16 Try.underlying34 hj hy0 hy1 hy2 rfl (by decide) _ _ _ rfl (OwnS.alloc HS.out _) ⟨wr.heap.size, 0, none⟩ 1 1 [.string K] rfl rfl ?e1 ?e2 (by decide) ?e3 ?e4 ?e5 _ rfl ?_)
            try case e1 =>
              intro j u hj
              match j, hj with
              | 0, hj => simp at hj; subst hj; simp [Addr.add]
            try case e2 => first | rfl | (intro u hu; simp at hu; subst hu; rfl)
            try case e3 => rw [HLen.out]; unfold maxLen; omega
            try case e4 => rw [HLen.out]; omega
            try case e5 => first | omega | (simp; omega)
            intro g cap' w4 hown' hgrow _ _
            have hS4 : OwnS w4 (w.heap.size + 2) (.slice (some ⟨g, 0, none⟩) (k + 1) cap') (blks s) := by
              rw [HLast.out, HLen.out] at hown'
              unfold OwnS
              rw [HBl.out, HSuc.out, List.length_append, HLen.out, List.map_append]; exact hown'
            have hb4 : Below (w.heap.size + 2) W1 w4 := (hb.alloc (by omega) _).grown hgrow (by simp; omega) (fun m hm => by have := (World.ownsRow.lt HS.out m hm).1; omega)
            have hF4 := hF1.below hb4 (by omega)
            have hQ4 := hQ1.below hb4 (by omega)
            have hw4 := hw1.trans (hb4.mono (by omega))
            have hlb : (blks s).length = k + 1 := by rw [HBl.out, blksN_length]
            have HGet := Lib.hid (fun j (hj : j < (blks s).length) => blks_get s j hj)
            rw [HLen.out]
            have HBl2 := Lib.hid (fun j => blksN_succ s j)
            have HLen2 := Lib.hid (fun j => blksN_length s j)
            clear hown' hgrow hb HSuc HLen hF1 hQ1 hw1 hb4 HLast
            generalize hm : k + 1 = m at *
            go_wp2_with fail
            go_loopw [11] (fun i wx => ∃ (j : Nat) (vs : Value), j ≤ m ∧ i = .int .i64 j ∧ OwnS wx (w.heap.size + 2) (.slice (some ⟨g, 0, none⟩) m cap') (blks s) ∧ OwnI wx (w.heap.size + 2) vs ((blksN s j).map sumB) ∧ Fb (w.heap.size + 1) (.int .i64 ven) (.int .i64 ver) vs wx ∧ Fb w.heap.size (.int .i64 0) (.int .i64 0) (.slice none 0 0) wx ∧ Below w.heap.size w wx) (fun i _ => m - (intOf i).toNat)
            case atStart => exact ⟨0, .slice none 0 0, Nat.zero_le _, rfl, hS4, OwnI.nil _ _, hF4, hQ4, hw4⟩
            case round =>
              obtain ⟨j, vs, hj, rfl, hS5, hI5, hF5, hQ5, hb5⟩ := hrel
              by_cases hlt2 : j < m
              · have hjb : j < (blks s).length := by omega
                obtain ⟨bk', off', hae, hbk', hcl⟩ := hS5.strs.get j hjb
                simp only [Option.some.injEq, Addr.mk.injEq, and_true] at hae
                obtain ⟨rfl, rfl⟩ := hae
                rw [HGet.out j hjb, Nat.zero_add] at hcl
                have hji : (j : Int) < (m : Int) := by omega
                have hlm : ((blksN s j).map sumB).length = j := by rw [List.length_map]; exact HLen2.out j
                have HLM := Lib.hid hlm
                have HSuc := Lib.hid (HBl2.out j)
                have HI := Lib.hid hI5
                have HOw := Lib.hid (OwnI.alloc (show OwnI wr.drew (w.heap.size + 2) vs ((blksN s j).map sumB) from hI5) (.cells #[.int .i64 (sumB (blk s j))] 3))
                have hnI (q : Nat) (hq : q < w.heap.size + 2) : vs.ownBlock ≠ some q := fun e => by have := (World.ownsRow.lt hI5 q e).1; omega
                have HG6 := Lib.hid (fun w6 (h : (wr.drew.alloc (.cells #[.int .i64 (sumB (blk s j))] 3)).grownBy w6 vs.ownBlock) => ((Fb.below (show Fb _ _ _ _ wr.drew from hF5) (below_box wr.drew _) hF5.lt).grown h (hnI _ (by omega)) : Fb (w.heap.size + 1) (.int .i64 ven) (.int .i64 ver) vs w6))
                have HQ6 := Lib.hid (fun w6 (h : (wr.drew.alloc (.cells #[.int .i64 (sumB (blk s j))] 3)).grownBy w6 vs.ownBlock) => ((Fb.below (show Fb _ _ _ _ wr.drew from hQ5) (below_box wr.drew _) hQ5.lt).grown h (hnI _ (by omega)) : Fb w.heap.size (.int .i64 0) (.int .i64 0) (.slice none 0 0) w6))
                have HB6 := Lib.hid (fun w6 (h : (wr.drew.alloc (.cells #[.int .i64 (sumB (blk s j))] 3)).grownBy w6 vs.ownBlock) => (((Below.drew' hb5).alloc (show w.heap.size ≤ wr.drew.heap.size from hb5.size) _).grown h (Nat.le_trans (show w.heap.size ≤ wr.drew.heap.size from hb5.size) (below_box wr.drew _).size) (fun q hq => by have := (World.ownsRow.lt hI5 q hq).1; omega) : Below w.heap.size w w6))
                have HS6 := Lib.hid (fun w6 (h : (wr.drew.alloc (.cells #[.int .i64 (sumB (blk s j))] 3)).grownBy w6 vs.ownBlock) => (World.ownsRow.kept (OwnS.alloc (OwnS.drew hS5) _) h (is_ne hS5 hI5).2 : OwnS w6 (w.heap.size + 2) (.slice (some ⟨g, 0, none⟩) m cap') (blks s)))
                have hc4 := hF5.c2
                have hf4 := hF5.f 2
                have hl4 := hF5.lt
                have hbz := blk_size s j
                have HC := Lib.hid (fun w => xSum_any (blk s j) w (by omega))
                clear hF5 hQ5 hb5 hS5 hI5 hlm hnI hbz hjb
                generalize blk s j = B at *
                go_wp2_with fail
                go_region_law (first | (refine step_append_lies _ rfl _ _ 22 rfl (w.heap.size + 2) 3 i0 (.int .i64 0) 1 8 Try.underlying22 hi hz0 hz1 hz2 rfl (by decide) vs _ _ (by simp [Act.eval, Act.put]) HOw.out ⟨wr.heap.size, 0, none⟩ 1 1 [.int .i64 (sumB B)] (by simp [Act.eval, Act.put]) rfl (news1 _ _ _) (one1 _) (by decide) (by rw [HLM.out]; unfold maxLen; omega) (by rw [HLM.out]; omega) (by simp; omega) _ rfl ?_; intro g6 cap6 w6 hown6 hgrow6 _ hlt6; have hF6 := HG6.out _ hgrow6; have hc6 := hF6.c2; have hf6 := hF6.f 2) | (go_simp; go_at_call 50; refine (HC.out _).mono ?_; rintro e w5 ⟨rfl, rfl⟩))
                all_goals
                  have hI6 : OwnI w6 (w.heap.size + 2) (.slice (some ⟨g6, 0, none⟩) (j + 1) cap6) ((blksN s (j + 1)).map sumB) := by
                    first | rw [HLM.out] at hown6 | rw [HLen2.out j] at hown6
                    unfold OwnI
                    rw [HSuc.out, List.map_append, List.length_append, HLM.out, List.map_append]; exact hown6
                  have hT := (Tch.refl (w.heap.size + 1) w6).setCell 2 (.slice (some ⟨g6, 0, none⟩) (j + 1) cap6)
                  first | rw [HLM.out] | rw [HLen2.out j]
                  have hF7 := hF6.set2 (.slice (some ⟨g6, 0, none⟩) (j + 1) cap6)
                  have hQ7 := (HQ6.out _ hgrow6).tch hT (by omega)
                  have hS7 := OwnS.tch (show OwnS w6 (w.heap.size + 2) (.slice (some ⟨g, 0, none⟩) m cap') (blks s) from HS6.out _ hgrow6) hT (by omega)
                  have hI7 := hI6.tch hT (by omega)
                  have hb7 := tch_new (HB6.out _ hgrow6) hT (by omega) (Nat.le_refl _)
                  clear hF6 hc6 hf6 hI6 hT hown6 hgrow6
                  generalize w6.setCell ⟨w.heap.size + 1, 2, none⟩ (.slice (some ⟨g6, 0, none⟩) (j + 1) cap6) = w7 at *
                  go_wp2_with fail
                  go_roundw
                  case rel => exact ⟨j + 1, _, by omega, by go_num, hS7, hI7, hF7, hQ7, hb7⟩
                  case measure => simp [intOf]; omega
              · obtain rfl : j = m := by omega
                have c0 := hF5.c0
                have c1 := hF5.c1
                have c2 := hF5.c2
                have d0 := hQ5.c0
                have d1 := hQ5.c1
                have d2 := hQ5.c2
                have f0 := hQ5.f 0
                have f1 := hQ5.f 1
                have f2 := hQ5.f 2
                obtain ⟨va, vn, vc, rfl⟩ : ∃ a n c, vs = .slice a n c := by
                  rcases hI5.2 with ⟨hv, _⟩ | ⟨g, cap, cur, hv, _⟩
                  · exact ⟨_, _, _, hv⟩
                  · exact ⟨_, _, _, hv⟩
                have HS5 := Lib.hid hS5
                have HI5 := Lib.hid hI5
                have hlF := hF5.lt
                clear hS5 hI5
                go_wp2_with fail
                have hQ7 := hQ5.set (.int .i64 ven) (.int .i64 ver) (.slice va vn vc)
                have hT := Fb.tset wr w.heap.size (.int .i64 ven) (.int .i64 ver) (.slice va vn vc)
                have q0 := hQ7.c0
                have q1 := hQ7.c1
                have q2 := hQ7.c2
                have hIf := (OwnI.tch HI5.out hT (by omega)).ints
                have hSf := (OwnS.tch HS5.out hT (by omega)).strs
                rw [← HBl.out] at hIf
                refine bodyPost_ret (v := .tuple #[fwv ⟨ven, ver, (blks s).map sumB⟩ (.slice va vn vc), .slice (some ⟨g, 0, none⟩) j cap', .int .i64 0]) ?_ rfl ⟨_, _, rfl, hIf.wide (by omega) (Nat.le_refl _), hSf.wide (by omega) (Nat.le_refl _), tch_new hb5 hT (Nat.le_refl _) (Nat.le_refl _)⟩
                simp [results, Try.results21, go_sem, fwv, q0, q1, q2]
end Go.Proofs.Ytbbfbeacgnimpaa
