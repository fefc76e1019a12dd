/-
  The walk of what describes an image, the program's.
-/
import Derived.Test.YtbbfbeacgnimpaaFirD
import Derived.Deep.AppendLies
import Derived.Deep.RegionLaw
import Derived.Deep.LoopGhost
open Go Go.RowKit Go.Proofs
namespace Go.Proofs.Ytbbfbeacgnimpaa
namespace Hub
theorem makeF_e1 {ven ver : Int} {s : ByteArray} (h : namedF ven ver = false) : makeF ven ver s = (noFw, [], 2) := by rw [makeF, if_pos h]
theorem makeF_e2 {ven ver : Int} {s : ByteArray} (h : ¬ namedF ven ver = false) (h2 : s.size = 0) : makeF ven ver s = (noFw, [], 5) := by rw [makeF, if_neg h, if_pos h2]
theorem makeF_e3 {ven ver : Int} {s : ByteArray} (h : ¬ namedF ven ver = false) (h2 : ¬ s.size = 0) (h3 : 4096 < s.size) : makeF ven ver s = (noFw, [], 3) := by rw [makeF, if_neg h, if_neg h2, if_pos h3]
theorem makeF_e4 {ven ver : Int} {s : ByteArray} (h : ¬ namedF ven ver = false) (h2 : ¬ s.size = 0) (h3 : ¬ 4096 < s.size) : makeF ven ver s = (⟨ven, ver, (blks s).map sumB⟩, blks s, 0) := by rw [makeF, if_neg h, if_neg h2, if_neg h3]
def vsize : Value → Nat
  | .string s => s.size
  | _ => 0
theorem is_ne {w : World} {base base' : Nat} {v u : Value} {l : List ByteArray} {m : List Int} (h : OwnS w base v l) (k : OwnI w base' u m) : (u.ownBlock = none ∨ u.ownBlock ≠ v.ownBlock) ∧ (v.ownBlock = none ∨ v.ownBlock ≠ u.ownBlock) := by
  rcases h.2 with ⟨rfl, _⟩ | ⟨g, cap, cur, rfl, hb, hg, _⟩
  · refine ⟨?_, .inl rfl⟩
    cases h : u.ownBlock with
    | none => exact .inl rfl
    | some b => exact .inr (by simp [Value.ownBlock])
  · rcases k.2 with ⟨rfl, _⟩ | ⟨g', cap', cur', rfl, hb', hg', _⟩
    · exact ⟨.inl rfl, .inr (by simp [Value.ownBlock])⟩
    · have hne : g ≠ g' := fun e => by
        subst e
        rw [hg] at hg'
        simp at hg'
      exact ⟨.inr (by simp [Value.ownBlock]; omega), .inr (by simp [Value.ownBlock]; omega)⟩
theorem Fb.grown {k : Nat} {a b v : Value} {x x' : World} {row : Option Nat} (h : Fb k a b v x) (t : x.grownBy x' row) (hn : row ≠ some k) : Fb k a b v x' := by
  unfold Fb; rw [t.block k h.lt (fun e => hn e.symm)]; exact h
theorem news1 (w : World) (x : Int) (T : TypeId) : ∀ j u, [Value.int .i64 x][j]? = some u → (w.alloc (.cells #[.int .i64 x] T)).cell? ((⟨w.heap.size, 0, none⟩ : Addr).add j) = some u := by
  intro j u hj
  match j, hj with
  | 0, hj => simp at hj; subst hj; simp [Addr.add]
theorem one1 (x : Int) : ∀ u ∈ [Value.int .i64 x], u.oneCell' = true := by
  intro u hu; simp at hu; subst hu; rfl
theorem blk_cut (s : ByteArray) (k : Nat) (h : 64 * k < s.size) :
    (s.extract (64 * k) s.size).size = s.size - 64 * k ∧ (s.extract (64 * k) s.size).extract 0 (min (64 : Int) ((s.extract (64 * k) s.size).size : Int)).toNat = blk s k ∧
    (s.extract (64 * k) s.size).extract (min (64 : Int) ((s.extract (64 * k) s.size).size : Int)).toNat (s.extract (64 * k) s.size).size = s.extract (64 * (k + 1)) s.size := by
  have hz : (s.extract (64 * k) s.size).size = s.size - 64 * k := by rw [ByteArray.size_extract]; omega
  refine ⟨hz, bl_inj ?_, bl_inj ?_⟩
  · rw [bl_take, bl_drop, blk, bl_extract, hz]
    by_cases h6 : 64 * k + 64 ≤ s.size
    · rw [show (min (64 : Int) ((s.size - 64 * k : Nat) : Int)).toNat = 64 by omega, show min (64 * (k + 1)) s.size - 64 * k = 64 by omega]
    · rw [show (min (64 : Int) ((s.size - 64 * k : Nat) : Int)).toNat = s.size - 64 * k by omega, show min (64 * (k + 1)) s.size - 64 * k = s.size - 64 * k by omega]
  · rw [bl_drop, bl_drop, bl_drop, List.drop_drop, hz]
    by_cases h6 : 64 * k + 64 ≤ s.size
    · rw [show 64 * k + (min (64 : Int) ((s.size - 64 * k : Nat) : Int)).toNat = 64 * (k + 1) by omega]
    · rw [List.drop_eq_nil_of_le (by rw [size_bl]; omega), List.drop_eq_nil_of_le (by rw [size_bl]; omega)]
end Hub
open Hub

set_option maxHeartbeats 1000000 in
theorem make_any (ven ver : Int) (s : ByteArray) (w : World) (hs : s.size ≤ 1099511627776) :
    Calls Try.prog 20 #[.int .i64 ven, .int .i64 ver, .string s] w fun e w' => ∃ v u, e = .returned (.tuple #[fwv (makeF ven ver s).1 v, u, .int .i64 (makeF ven ver s).2.2]) ∧ IntsAt w.heap.size w'.heap.size w' v (makeF ven ver s).1.sums ∧ StrsAt w.heap.size w'.heap.size w' u (makeF ven ver s).2.1 ∧ Below w.heap.size w w' := by
  obtain ⟨i0, hi, hz0, hz1, hz2⟩ := info_parts int_info
  obtain ⟨j0, hj, hy0, hy1, hy2⟩ := info_parts str_info
  have HN := Lib.hid (fun w => named_any ven ver w)
  have hQ0 : Fb w.heap.size (.int .i64 0) (.int .i64 0) (.slice none 0 0) (w.alloc (.cells #[.int .i64 0, .int .i64 0, .slice none 0 0] 24)) := heap_alloc_new w _
  have hw0 := below_box w (.cells #[.int .i64 0, .int .i64 0, .slice none 0 0] 24)
  by_cases h1 : namedF ven ver = false
  · rw [makeF_e1 h1]
    rw [h1] at HN
    go_enter Try.func20, Try.ntmps20
    go_wp2_with (refine (HN.out _).mono ?_; rintro e w1 ⟨rfl, rfl⟩)
    refine bodyPost_ret (v := .tuple #[fwv noFw (.slice none 0 0), .slice none 0 0, .int .i64 2]) ?_ rfl ⟨_, _, rfl, IntsAt.none _ _ _, StrsAt.nil _ _ _, hw0⟩
    simp [results, Try.results20, go_sem, fwv, noFw, hQ0.c0, hQ0.c1, hQ0.c2]
  · have h1t : namedF ven ver = true := by simpa using h1
    rw [h1t] at HN
    by_cases h2 : s.size = 0
    · rw [makeF_e2 h1 h2]
      obtain rfl := empty_of h2
      go_enter Try.func20, Try.ntmps20
      go_wp2_with (refine (HN.out _).mono ?_; rintro e w1 ⟨rfl, rfl⟩)
      refine bodyPost_ret (v := .tuple #[fwv noFw (.slice none 0 0), .slice none 0 0, .int .i64 5]) ?_ rfl ⟨_, _, rfl, IntsAt.none _ _ _, StrsAt.nil _ _ _, hw0⟩
      simp [results, Try.results20, go_sem, fwv, noFw, hQ0.c0, hQ0.c1, hQ0.c2]
    · have hne := nempty_of h2
      have hne2 := nempty_is h2
      by_cases h3 : 4096 < s.size
      · rw [makeF_e3 h1 h2 h3]
        have h3i : (4096 : Int) < (s.size : Int) := by omega
        clear h1 h2 h3 hs
        go_enter Try.func20, Try.ntmps20
        go_wp2_with (refine (HN.out _).mono ?_; rintro e w1 ⟨rfl, rfl⟩)
        refine bodyPost_ret (v := .tuple #[fwv noFw (.slice none 0 0), .slice none 0 0, .int .i64 3]) ?_ rfl ⟨_, _, rfl, IntsAt.none _ _ _, StrsAt.nil _ _ _, hw0⟩
        simp [results, Try.results20, go_sem, fwv, noFw, hQ0.c0, hQ0.c1, hQ0.c2]
      · rw [makeF_e4 h1 h2 h3]
        have h3i : (s.size : Int) ≤ 4096 := by omega
        clear h1 h2
        go_enter Try.func20, Try.ntmps20
        go_wp2_with (refine (HN.out _).mono ?_; rintro e w1 ⟨rfl, rfl⟩)
        have hQ1 : Fb w.heap.size (.int .i64 0) (.int .i64 0) (.slice none 0 0) ((w.alloc (.cells #[.int .i64 0, .int .i64 0, .slice none 0 0] 24)).alloc (.cells #[.int .i64 ven, .int .i64 ver, .slice none 0 0] 24)) := hQ0.below (below_box _ _) hQ0.lt
        have hF1 : Fb (w.heap.size + 1) (.int .i64 ven) (.int .i64 ver) (.slice none 0 0) ((w.alloc (.cells #[.int .i64 0, .int .i64 0, .slice none 0 0] 24)).alloc (.cells #[.int .i64 ven, .int .i64 ver, .slice none 0 0] 24)) := by
          have := heap_alloc_new (w.alloc (.cells #[.int .i64 0, .int .i64 0, .slice none 0 0] 24)) (.cells #[.int .i64 ven, .int .i64 ver, .slice none 0 0] 24)
          simpa [Fb] using this
        have hw1 : Below w.heap.size w ((w.alloc (.cells #[.int .i64 0, .int .i64 0, .slice none 0 0] 24)).alloc (.cells #[.int .i64 ven, .int .i64 ver, .slice none 0 0] 24)) := hw0.trans ((below_box _ _).mono (by simp))
        generalize (w.alloc (.cells #[.int .i64 0, .int .i64 0, .slice none 0 0] 24)).alloc (.cells #[.int .i64 ven, .int .i64 ver, .slice none 0 0] 24) = W1 at *
        clear hQ0 hw0
        have hnb : nblk s = (s.size + 63) / 64 := rfl
        go_loopw [2, 10] (fun d u wr => ∃ (k : Nat) (vs : Value), d = .string (s.extract (64 * k) s.size) ∧ k ≤ nblk s ∧ OwnS wr (w.heap.size + 2) u (blksN s k) ∧ OwnI wr (w.heap.size + 2) vs ((blksN s k).map sumB) ∧ Fb (w.heap.size + 1) (.int .i64 ven) (.int .i64 ver) vs wr ∧ Fb w.heap.size (.int .i64 0) (.int .i64 0) (.slice none 0 0) wr ∧ Below w.heap.size w wr) (fun d _ _ => vsize d)
        case atStart => exact ⟨0, .slice none 0 0, by rw [Nat.mul_zero]; simp, Nat.zero_le _, OwnS.nil _ _, OwnI.nil _ _, hF1, hQ1, hw1⟩
        case round =>
          obtain ⟨k, vs, rfl, hk, hS, hI, hF, hQ, hb⟩ := hrel
          by_cases hlt : 64 * k < s.size
          · obtain ⟨b1, b2, b3⟩ := blk_cut s k hlt
            have hbs := blk_size s k
            have HS := Lib.hid hS
            have HI := Lib.hid hI
            have hsuc := blksN_succ s k
            have HSuc := Lib.hid hsuc
            have hlen := blksN_length s k
            have HLen := Lib.hid hlen
            have HB := Lib.hid b2
            have HR := Lib.hid b3
            have hK0 : (0 : Int) < ((s.extract (64 * k) s.size).size : Int) := by omega
            have hm0 : 0 ≤ min (64 : Int) ((s.extract (64 * k) s.size).size : Int) := by omega
            have hm1 : min (64 : Int) ((s.extract (64 * k) s.size).size : Int) ≤ ((s.extract (64 * k) s.size).size : Int) := by omega
            have hm2 : 0 < min (64 : Int) ((s.extract (64 * k) s.size).size : Int) := by omega
            have hsl := hF.lt
            have HBk := Lib.hid b1
            clear b1 b2 b3 hS hI hsuc hlen
            generalize s.extract (64 * k) s.size = K at *
            go_wp2_with (at_builtin; refine wpList_append_lies _ rfl _ _ 34 rfl (w.heap.size + 2) 9 j0 (.string ByteArray.empty) 1 16 Try.underlying34 hj hy0 hy1 hy2 rfl (by decide) _ _ _ rfl (OwnS.alloc HS.out _) ⟨wr.heap.size, 0, none⟩ 1 1 [.string (K.extract 0 (min (64 : Int) (K.size : Int)).toNat)] rfl rfl ?c1 ?c2 (by decide) ?c3 ?c4 ?c5 _ rfl ?_)
            case c1 =>
              intro j u hj
              match j, hj with
              | 0, hj => simp at hj; subst hj; simp [Addr.add]
            case c2 => intro u hu; simp at hu; subst hu; rfl
            case c3 => rw [HLen.out]; unfold maxLen; omega
            case c4 => rw [HLen.out]; omega
            case c5 => simp; omega
            intro g cap' w4 hown' hgrow _ _
            have hS4 : OwnS w4 (w.heap.size + 2) (.slice (some ⟨g, 0, none⟩) (k + 1) cap') (blksN s (k + 1)) := by
              rw [HB.out, HLen.out] at hown'
              unfold OwnS
              rw [HSuc.out, List.length_append, HLen.out, List.map_append]; exact hown'
            have hI4 : OwnI w4 (w.heap.size + 2) vs ((blksN s k).map sumB) := World.ownsRow.kept (OwnI.alloc HI.out _) hgrow (is_ne HS.out HI.out).1
            have hn (m : Nat) (hm : m < w.heap.size + 2) : u10.ownBlock ≠ some m := fun e => by have := (World.ownsRow.lt HS.out m e).1; omega
            have hF4 := (hF.below (below_box wr _) hF.lt).grown hgrow (hn _ (by omega))
            have hQ4 := (hQ.below (below_box wr _) hQ.lt).grown hgrow (hn _ (by omega))
            have hb4 : Below w.heap.size w w4 := (hb.alloc (by omega) _).grown hgrow (by simp; omega) (fun m hm => by have := (World.ownsRow.lt HS.out m hm).1; omega)
            have HS4 := Lib.hid hS4
            have HI4 := Lib.hid hI4
            have HOw := Lib.hid (OwnI.alloc (show OwnI w4.drew (w.heap.size + 2) vs ((blksN s k).map sumB) from hI4) (.cells #[.int .i64 (sumB (blk s k))] 3))
            have hlm : ((blksN s k).map sumB).length = k := by rw [List.length_map]; exact HLen.out
            have HLM := Lib.hid hlm
            have hnI (m : Nat) (hm : m < w.heap.size + 2) : vs.ownBlock ≠ some m := fun e => by have := (World.ownsRow.lt hI4 m e).1; omega
            have HG6 := Lib.hid (fun w6 (h : (w4.drew.alloc (.cells #[.int .i64 (sumB (blk s k))] 3)).grownBy w6 vs.ownBlock) => ((Fb.below (show Fb _ _ _ _ w4.drew from hF4) (below_box w4.drew _) hF4.lt).grown h (hnI _ (by omega)) : Fb (w.heap.size + 1) (.int .i64 ven) (.int .i64 ver) vs w6))
            have HQ6 := Lib.hid (fun w6 (h : (w4.drew.alloc (.cells #[.int .i64 (sumB (blk s k))] 3)).grownBy w6 vs.ownBlock) => ((Fb.below (show Fb _ _ _ _ w4.drew from hQ4) (below_box w4.drew _) hQ4.lt).grown h (hnI _ (by omega)) : Fb w.heap.size (.int .i64 0) (.int .i64 0) (.slice none 0 0) w6))
            have HB6 := Lib.hid (fun w6 (h : (w4.drew.alloc (.cells #[.int .i64 (sumB (blk s k))] 3)).grownBy w6 vs.ownBlock) => (((Below.drew' hb4).alloc (show w.heap.size ≤ w4.drew.heap.size from hb4.size) _).grown h (Nat.le_trans (show w.heap.size ≤ w4.drew.heap.size from hb4.size) (below_box w4.drew _).size) (fun m hm => by have := (World.ownsRow.lt hI4 m hm).1; omega) : Below w.heap.size w w6))
            have HS6 := Lib.hid (fun w6 (h : (w4.drew.alloc (.cells #[.int .i64 (sumB (blk s k))] 3)).grownBy w6 vs.ownBlock) => (World.ownsRow.kept (OwnS.alloc (OwnS.drew hS4) _) h (is_ne hS4 hI4).2 : OwnS w6 (w.heap.size + 2) (.slice (some ⟨g, 0, none⟩) (k + 1) cap') (blksN s (k + 1))))
            have hc4 := hF4.c2
            have hf4 := hF4.f 2
            have hl4 := hF4.lt
            have HC := Lib.hid (fun w => crc32_any (K.extract 0 (min (64 : Int) (K.size : Int)).toNat) w (by rw [HB.out]; omega))
            have hsb : ((crc32 (bl (K.extract 0 (min (64 : Int) (K.size : Int)).toNat))).toNat : Int) = sumB (blk s k) := by rw [HB.out]; rfl
            rw [hsb] at HC
            rw [HLen.out]
            clear hown' hgrow hF hQ hb hS4 hI4 hn hlm hsb hnI
            go_wp2_with fail
            go_region_law (first | (refine step_append_lies _ rfl _ _ 22 rfl (w.heap.size + 2) 3 i0 (.int .i64 0) 1 8 Try.underlying22 hi hz0 hz1 hz2 rfl (by decide) vs _ _ (by simp [Act.eval, Act.put]) HOw.out ⟨w4.heap.size, 0, none⟩ 1 1 [.int .i64 (sumB (blk s k))] (by simp [Act.eval, Act.put]) rfl (news1 _ _ _) (one1 _) (by decide) (by rw [HLM.out]; unfold maxLen; omega) (by rw [HLM.out]; omega) (by simp; omega) _ rfl ?_; intro g6 cap6 w6 hown6 hgrow6 _ hlt6; have hF6 := HG6.out _ hgrow6; have hc6 := hF6.c2; have hf6 := hF6.f 2) | (go_simp; go_at_call 49; refine (HC.out _).mono ?_; rintro e w5 ⟨rfl, rfl⟩))
            all_goals
              have hI6 : OwnI w6 (w.heap.size + 2) (.slice (some ⟨g6, 0, none⟩) (k + 1) cap6) ((blksN s (k + 1)).map sumB) := by
                first | rw [HLM.out] at hown6 | rw [HLen.out] at hown6
                unfold OwnI
                rw [HSuc.out, List.map_append, List.length_append, HLM.out, List.map_append]; exact hown6
              have hT := (Tch.refl (w.heap.size + 1) w6).setCell 2 (.slice (some ⟨g6, 0, none⟩) (k + 1) cap6)
              first | rw [HLM.out] | rw [HLen.out]
              have hF7 := hF6.set2 (.slice (some ⟨g6, 0, none⟩) (k + 1) cap6)
              have hQ7 := (HQ6.out _ hgrow6).tch hT (by omega)
              have hS7 := OwnS.tch (show OwnS w6 (w.heap.size + 2) (.slice (some ⟨g, 0, none⟩) (k + 1) cap') (blksN s (k + 1)) from HS6.out _ hgrow6) hT (by omega)
              have hI7 := hI6.tch hT (by omega)
              have hb7 := tch_new (HB6.out _ hgrow6) hT (by omega) (Nat.le_refl _)
              clear hF6 hc6 hf6 hI6 hT hown6 hgrow6
              generalize w6.setCell ⟨w.heap.size + 1, 2, none⟩ (.slice (some ⟨g6, 0, none⟩) (k + 1) cap6) = w7 at *
              go_wp2_with fail
              go_roundw
              case rel => exact ⟨k + 1, _, by rw [HR.out], by omega, hS7, hI7, hF7, hQ7, hb7⟩
              case measure =>
                show (K.extract (min (64 : Int) (K.size : Int)).toNat K.size).size < K.size
                rw [ByteArray.size_extract]; omega
          · have hke : k = nblk s := by omega
            subst hke
            have hKz : (s.extract (64 * nblk s) s.size).size = 0 := by rw [ByteArray.size_extract]; omega
            have hK0 : ¬ (0 : Int) < ((s.extract (64 * nblk s) s.size).size : Int) := by omega
            generalize s.extract (64 * nblk s) s.size = K at *
            have c0 := hF.c0
            have c1 := hF.c1
            have c2 := hF.c2
            have d0 := hQ.c0
            have d1 := hQ.c1
            have d2 := hQ.c2
            have f0 := hQ.f 0
            have f1 := hQ.f 1
            have f2 := hQ.f 2
            obtain ⟨va, vn, vc, rfl⟩ : ∃ a n c, vs = .slice a n c := by
              rcases hI.2 with ⟨hv, _⟩ | ⟨g, cap, cur, hv, _⟩
              · exact ⟨_, _, _, hv⟩
              · exact ⟨_, _, _, hv⟩
            have HS := Lib.hid hS
            have HI := Lib.hid hI
            have hlF := hF.lt
            clear hS hI hKz
            go_wp2_with fail
            have hQ7 := hQ.set (.int .i64 ven) (.int .i64 ver) (.slice va vn vc)
            have hT := Fb.tset wr w.heap.size (.int .i64 ven) (.int .i64 ver) (.slice va vn vc)
            have q0 := hQ7.c0
            have q1 := hQ7.c1
            have q2 := hQ7.c2
            have hIf := (OwnI.tch HI.out hT (by omega)).ints
            have hSf := (OwnS.tch HS.out hT (by omega)).strs
            refine bodyPost_ret (v := .tuple #[fwv ⟨ven, ver, (blks s).map sumB⟩ (.slice va vn vc), u10, .int .i64 0]) ?_ rfl ⟨_, _, rfl, hIf.wide (by omega) (Nat.le_refl _), hSf.wide (by omega) (Nat.le_refl _), tch_new hb hT (Nat.le_refl _) (Nat.le_refl _)⟩
            simp [results, Try.results20, go_sem, fwv, q0, q1, q2]
end Go.Proofs.Ytbbfbeacgnimpaa
