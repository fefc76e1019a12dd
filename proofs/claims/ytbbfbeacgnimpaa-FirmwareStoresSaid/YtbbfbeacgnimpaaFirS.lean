/-
  The reference's walks of what stores a block and tells the missing ones.
-/
import Derived.Test.YtbbfbeacgnimpaaFirR
open Go Go.RowKit Go.Proofs
namespace Go.Proofs.Ytbbfbeacgnimpaa
namespace Hub
theorem own_ne {g g' n k : Nat} (h : g ≠ g') : (Value.slice (some ⟨g, 0, none⟩) n k).ownBlock ≠ some g' := by
  intro e
  exact h (by simpa [Value.ownBlock] using e)
end Hub
open Hub

set_option maxHeartbeats 1000000 in
theorem xPut_any (f : Fw) (v vh vb : Value) (lo N : Nat) (h : List Bool) (b : List ByteArray) (i : Int) (x : ByteArray) (w : World) (hv : IntsAt lo N w v f.sums) (hh : BoolsAt lo N w vh h) (hb : StrsAt lo N w vb b) (hN : N ≤ w.heap.size)
    (hl : f.sums.length ≤ 1099511627776) (hx : x.size ≤ 1099511627776) :
    Calls Try.prog 25 #[fwv f v, vh, vb, .int .i64 i, .string x] w fun e w' => ∃ v1 v2, e = .returned (.tuple #[v1, v2, .int .i64 (putF f h b i x).2.2]) ∧
      BoolsAt w.heap.size w'.heap.size w' v1 (putF f h b i x).1 ∧ StrsAt w.heap.size w'.heap.size w' v2 (putF f h b i x).2.1 ∧ Below w.heap.size w w' := by
  have HV := Lib.hid (fun w' (k : Below w.heap.size w w') => xVer_any f v lo N i x w' (hv.below k hN) (Nat.le_trans hN k.size) hl hx)
  have HS := Lib.hid (fun w' (k : Below w.heap.size w w') hn => lists_any f v vh vb lo N h b w' (hv.below k hN) (hh.below k hN) (hb.below k hN) (Nat.le_trans hN k.size) hn hl)
  obtain ⟨ah, caph, rfl, -⟩ := hh
  obtain ⟨ab, capb, rfl, -⟩ := hb
  unfold fwv at *
  by_cases he : verF f i x = 0
  · have heb : (verF f i x != 0) = false := by simpa using he
    rw [putF_good (by simpa using he)]
    have hz : chkF f = 0 := by
      by_cases hz : chkF f = 0
      · exact hz
      · rw [verF_bad hz] at he; exact he
    have hvb := he
    rw [verF_zero hz] at hvb
    obtain ⟨hi0, hi1⟩ := verB_range hvb
    obtain ⟨k, rfl⟩ := Int.eq_ofNat_of_zero_le hi0
    rw [Int.toNat_natCast]
    have hk : k < f.sums.length := by omega
    have hlH := haveL_length f.sums.length h b
    have hlD := dataL_length f.sums.length h b
    generalize haveL f.sums.length h b = H at *
    generalize dataL f.sums.length h b = D at *
    obtain ⟨n, hn⟩ : ∃ n, f.sums.length = n := ⟨_, rfl⟩
    rw [hn] at HS hk hlH hlD hl
    clear he hvb hz hi0 hi1 hv
    go_enter Try.func25, Try.ntmps25
    go_wp2_with fail
    refine (HV.out _ (below_box w _)).mono ?_
    rintro e w1 ⟨rfl, hb1⟩
    obtain ⟨c0, c1, c2, _, hb2, hs⟩ := box3 hb1
    clear hb1
    go_wp2_with fail
    refine (HS.out _ hb2 (by omega)).mono ?_
    rintro e w2 ⟨g1, k1, g2, k2, rfl, hT1, hT2, hne, hb3⟩
    clear c0 c1 c2
    have hR1 : w2.ownsRow w1.heap.size 4 1 (.slice (some ⟨g1, 0, none⟩) n k1) n (H.map Value.bool) := by have := hT1; unfold OwnT at this; rw [hlH] at this; exact this
    have hR2 : w2.ownsRow w1.heap.size 9 1 (.slice (some ⟨g2, 0, none⟩) n k2) n (D.map Value.string) := by have := hT2; unfold OwnS at this; rw [hlD] at this; exact this
    have hg1 : w1.heap.size ≤ g1 := (World.ownsRow.lt hR1 g1 rfl).1
    have hg2 : w1.heap.size ≤ g2 := (World.ownsRow.lt hR2 g2 rfl).1
    have hc1 : ∃ y, w2.cell? ⟨g1, k, none⟩ = some y := ⟨_, by rw [World.ownsRow.cellAt hR1 k (by omega), List.getElem?_eq_getElem (by rw [List.length_map, hlH]; exact hk)]⟩
    obtain ⟨y1, hc1⟩ := hc1
    have hf1 := World.ownsRow.frozenAt hR1 k
    have hki : (k : Int) < (n : Int) := by omega
    obtain ⟨hR1', hgr1⟩ := World.ownsRow.stored hR1 k (.bool true)
    have hR2' : (w2.setCell ⟨g1, k, none⟩ (.bool true)).ownsRow w1.heap.size 9 1 (.slice (some ⟨g2, 0, none⟩) n k2) n (D.map Value.string) := World.ownsRow.kept hR2 hgr1 (.inr (own_ne (Ne.symm hne)))
    have hc2 : ∃ y, (w2.setCell ⟨g1, k, none⟩ (.bool true)).cell? ⟨g2, k, none⟩ = some y := ⟨_, by rw [World.ownsRow.cellAt hR2' k (by omega), List.getElem?_eq_getElem (by rw [List.length_map, hlD]; exact hk)]⟩
    obtain ⟨y2, hc2⟩ := hc2
    have hf2 := World.ownsRow.frozenAt hR2' k
    obtain ⟨hR2'', hgr2⟩ := World.ownsRow.stored hR2' k (.string x)
    have hR1'' := World.ownsRow.kept hR1' hgr2 (.inr (own_ne hne))
    have hw2 := hb2.trans (hb3.mono hb2.size)
    have hT1 : Tch g1 w2 (w2.setCell ⟨g1, k, none⟩ (.bool true)) := (Tch.refl _ _).setCell k _
    have hw3 := tch_new hw2 hT1 (by omega) (Nat.le_refl _)
    have hT2 : Tch g2 (w2.setCell ⟨g1, k, none⟩ (.bool true)) ((w2.setCell ⟨g1, k, none⟩ (.bool true)).setCell ⟨g2, k, none⟩ (.string x)) := (Tch.refl _ _).setCell k _
    have hw4 := tch_new hw3 hT2 (by omega) (Nat.le_refl _)
    have hO1 : OwnT ((w2.setCell ⟨g1, k, none⟩ (.bool true)).setCell ⟨g2, k, none⟩ (.string x)) w1.heap.size (.slice (some ⟨g1, 0, none⟩) n k1) (H.set k true) := by
      unfold OwnT; rw [List.length_set, hlH, List.map_set]; exact hR1''
    have hO2 : OwnS ((w2.setCell ⟨g1, k, none⟩ (.bool true)).setCell ⟨g2, k, none⟩ (.string x)) w1.heap.size (.slice (some ⟨g2, 0, none⟩) n k2) (D.set k x) := by
      unfold OwnS; rw [List.length_set, hlD, List.map_set]; exact hR2''
    have HF1 := Lib.hid (hO1.bools.wide (show w.heap.size ≤ w1.heap.size by omega) (Nat.le_refl _))
    have HF2 := Lib.hid (hO2.strs.wide (show w.heap.size ≤ w1.heap.size by omega) (Nat.le_refl _))
    have HW4 := Lib.hid hw4
    clear hT1 hT2 hR1' hR2' hw2 hw3 hR1'' hR2'' hw4 hR1 hR2 hb3 hO1 hO2 hgr1 hgr2
    go_wp2_with fail
    refine bodyPost_ret (v := .tuple #[.slice (some ⟨g1, 0, none⟩) n k1, .slice (some ⟨g2, 0, none⟩) n k2, .int .i64 0]) ?_ rfl ⟨_, _, rfl, HF1.out, HF2.out, HW4.out⟩
    simp [results, Try.results25, go_sem]
  · have heb : (verF f i x != 0) = true := by simpa using he
    rw [putF_bad he]
    clear he hv HS
    go_enter Try.func25, Try.ntmps25
    go_wp2_with fail
    refine (HV.out _ (below_box w _)).mono ?_
    rintro e w1 ⟨rfl, hb1⟩
    obtain ⟨c0, c1, c2, _, hb2, hs⟩ := box3 hb1
    clear hb1
    go_wp2_with fail
    refine (HV.out _ hb2).mono ?_
    rintro e w2 ⟨rfl, hb3⟩
    go_wp2_with fail
    refine bodyPost_ret (v := .tuple #[.slice none 0 0, .slice none 0 0, .int .i64 (verF f i x)]) ?_ rfl ⟨_, _, rfl, BoolsAt.nil _ _ _, StrsAt.nil _ _ _, bt hb2 hb3⟩
    simp [results, Try.results25, go_sem]

set_option maxHeartbeats 1000000 in
theorem xMiss_any (f : Fw) (v vh : Value) (lo N : Nat) (h : List Bool) (w : World) (hv : IntsAt lo N w v f.sums) (hh : BoolsAt lo N w vh h) (hN : N ≤ w.heap.size) (hl : f.sums.length ≤ 1099511627776) :
    Calls Try.prog 31 #[fwv f v, vh] w fun e w' => ∃ u, e = .returned u ∧ OwnI w' w.heap.size u (missF f h) ∧ Below w.heap.size w w' := by
  obtain ⟨i0, hi, hz0, hz1, hz2⟩ := info_parts int_info
  have HK := Lib.hid (fun w' (k : Below w.heap.size w w') => xChk_any f v lo N w' (hv.below k hN) (Nat.le_trans hN k.size) hl)
  have HH := Lib.hid (fun w' (k : Below w.heap.size w w') => hh.below k hN)
  obtain ⟨ah, caph, rfl, -⟩ := hh
  obtain ⟨av, capv, rfl, -⟩ := hv
  unfold fwv at *
  by_cases hz : chkF f = 0
  · have hzb : (chkF f != 0) = false := by simpa using hz
    rw [missF_zero hz]
    obtain ⟨n, hn⟩ : ∃ n, f.sums.length = n := ⟨_, rfl⟩
    rw [hn]
    rw [hn] at HK hl
    clear hz
    go_enter Try.func31, Try.ntmps31
    go_wp2_with fail
    refine (HK.out _ (below_box w _)).mono ?_
    rintro e w1 ⟨rfl, hb1⟩
    obtain ⟨c0, c1, c2, hF1, hb2, hs⟩ := box3 hb1
    have HH1 := Lib.hid (HH.out w1 hb2)
    have hF1' : Fb w.heap.size (.int .i64 f.ven) (.int .i64 f.ver) (.slice av n capv) w1 := hF1
    have HF1 := Lib.hid hF1'
    have hs1 : w.heap.size < w1.heap.size := hs
    clear hb1 hF1 hF1' c0 c1 c2
    go_wp2_with fail
    go_loopw [5, 6] (fun u i wr => ∃ k : Nat, k ≤ n ∧ i = .int .i64 k ∧ OwnI wr w1.heap.size u (missN n h k) ∧ Below w1.heap.size w1 wr) (fun _ i _ => n - (intOf i).toNat)
    case atStart => exact ⟨0, Nat.zero_le _, rfl, OwnI.nil _ _, Below.refl _ _⟩
    case round =>
      obtain ⟨k, hk, rfl, hown, hb⟩ := hrel
      have d2 := (HF1.out.below hb hs1).c2
      by_cases hlt : k < n
      · have hki : (k : Int) < (n : Int) := by omega
        have hsuc := missN_succ n h k
        have hq : (∃ bk off, ah = some ⟨bk, off, none⟩ ∧ wr.cell? ⟨bk, off + k, none⟩ = some (.bool true) ∧ h.length = n ∧ missN n h (k + 1) = missN n h k) ∨
            (missN n h (k + 1) = missN n h k ++ [(k : Int)] ∧ (¬ h.length = n ∨ (∃ bk off, ah = some ⟨bk, off, none⟩ ∧ wr.cell? ⟨bk, off + k, none⟩ = some (.bool false) ∧ h.length = n))) := by
          by_cases hE : h.length = n
          · have hkh : k < h.length := by omega
            obtain ⟨bk, off, rfl, hbk, hcl⟩ := (HH1.out.below hb (Nat.le_trans hN hb2.size)).get k hkh
            have hgd : h.getD k false = h[k] := by rw [List.getD_eq_getElem?_getD, List.getElem?_eq_getElem hkh]; rfl
            rw [decide_eq_true hE, hgd, Bool.true_and] at hsuc
            cases e : h[k] with
            | true =>
              rw [e] at hcl hsuc
              exact .inl ⟨bk, off, rfl, hcl, hE, by rw [hsuc, if_pos rfl]⟩
            | false =>
              rw [e] at hcl hsuc
              exact .inr ⟨by rw [hsuc, if_neg (by simp)], .inr ⟨bk, off, rfl, hcl, hE⟩⟩
          · rw [decide_eq_false hE, Bool.false_and, if_neg (by simp)] at hsuc
            exact .inr ⟨hsuc, .inl hE⟩
        clear hsuc
        rcases hq with ⟨bk, off, rfl, hcl, hE, hS⟩ | ⟨hS, hE | ⟨bk, off, rfl, hcl, hE⟩⟩
        · have hEb : ((h.length : Int) != (n : Int)) = false := by simp [hE]
          have hkh : (k : Int) < (h.length : Int) := by omega
          clear hE
          have HS := Lib.hid hS
          clear hS
          go_wp2_with fail
          go_roundw
          case rel => exact ⟨k + 1, by omega, by go_num, by rw [HS.out]; exact hown, hb⟩
          case measure => simp [intOf]; omega
        · have hEb : ((h.length : Int) != (n : Int)) = true := by simp only [bne_iff_ne]; omega
          have hlen := missN_length n h k
          have HLen := Lib.hid hlen
          have HS := Lib.hid hS
          have HB := Lib.hid hb.size
          clear hlen hS
          go_wp2_with (at_builtin; refine wpList_append_own _ rfl _ _ 22 rfl w1.heap.size 3 i0 (.int .i64 0) 1 8 Try.underlying22 hi hz0 hz1 hz2 rfl (by decide) _ _ _ rfl (OwnI.alloc hown _) ⟨wr.heap.size, 0, none⟩ 1 1 [.int .i64 (k : Int)] rfl rfl ?c1 ?c2 ?c3 ?c4 ?c5 ?_)
          case c1 =>
            intro j u hj
            match j, hj with
            | 0, hj => simp at hj; subst hj; simp [Addr.add]
          case c2 => intro u hu; simp at hu; subst hu; rfl
          case c3 => have := HLen.out; unfold maxLen; omega
          case c4 => have := HLen.out; omega
          case c5 => have := HB.out; simp; omega
          intro v' w4 hown' hgrow _
          go_wp2_with fail
          go_roundw
          case rel =>
            refine ⟨k + 1, by omega, by go_num, ?_, ?_⟩
            · rw [HS.out]; unfold OwnI; rw [List.length_append, List.map_append]; exact hown'
            · exact (hb.alloc HB.out _).grown hgrow (by have := HB.out; simp; omega) (fun g hg => (World.ownsRow.lt hown g hg).1)
          case measure => simp [intOf]; omega
        · have hEb : ((h.length : Int) != (n : Int)) = false := by simp [hE]
          have hkh : (k : Int) < (h.length : Int) := by omega
          clear hE
          have hlen := missN_length n h k
          have HLen := Lib.hid hlen
          have HS := Lib.hid hS
          have HB := Lib.hid hb.size
          clear hlen hS
          go_wp2_with (at_builtin; refine wpList_append_own _ rfl _ _ 22 rfl w1.heap.size 3 i0 (.int .i64 0) 1 8 Try.underlying22 hi hz0 hz1 hz2 rfl (by decide) _ _ _ rfl (OwnI.alloc hown _) ⟨wr.heap.size, 0, none⟩ 1 1 [.int .i64 (k : Int)] rfl rfl ?d1 ?d2 ?d3 ?d4 ?d5 ?_)
          case d1 =>
            intro j u hj
            match j, hj with
            | 0, hj => simp at hj; subst hj; simp [Addr.add]
          case d2 => intro u hu; simp at hu; subst hu; rfl
          case d3 => have := HLen.out; unfold maxLen; omega
          case d4 => have := HLen.out; omega
          case d5 => have := HB.out; simp; omega
          intro v' w4 hown' hgrow _
          go_wp2_with fail
          go_roundw
          case rel =>
            refine ⟨k + 1, by omega, by go_num, ?_, ?_⟩
            · rw [HS.out]; unfold OwnI; rw [List.length_append, List.map_append]; exact hown'
            · exact (hb.alloc HB.out _).grown hgrow (by have := HB.out; simp; omega) (fun g hg => (World.ownsRow.lt hown g hg).1)
          case measure => simp [intOf]; omega
      · obtain rfl : k = n := by omega
        go_wp2_with fail
        go_ret
        exact ⟨_, rfl, hown.base (Nat.le_of_lt hs), bt hb2 hb⟩
  · have hzb : (chkF f != 0) = true := by simpa using hz
    rw [missF_bad hz]
    clear hz
    go_enter Try.func31, Try.ntmps31
    go_wp2_with fail
    refine (HK.out _ (below_box w _)).mono ?_
    rintro e w1 ⟨rfl, hb1⟩
    obtain ⟨c0, c1, c2, _, hb2, hs⟩ := box3 hb1
    clear hb1
    go_wp2_with fail
    go_ret
    exact ⟨_, rfl, OwnI.nil _ _, hb2⟩
end Go.Proofs.Ytbbfbeacgnimpaa
