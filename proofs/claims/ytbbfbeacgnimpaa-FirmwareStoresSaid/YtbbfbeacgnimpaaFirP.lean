/-
  The reference's walks of what checks a block, copies the lists of stored blocks and stores one.
-/
import Derived.Test.YtbbfbeacgnimpaaFirN
open Go Go.RowKit Go.Proofs
namespace Go.Proofs.Ytbbfbeacgnimpaa
open Hub

set_option maxHeartbeats 1000000 in
theorem xVer_any (f : Fw) (v : Value) (lo N : Nat) (i : Int) (b : ByteArray) (w : World) (hv : IntsAt lo N w v f.sums) (hN : N ≤ w.heap.size) (hl : f.sums.length ≤ 1099511627776) (hb : b.size ≤ 1099511627776) :
    Calls Try.prog 27 #[fwv f v, .int .i64 i, .string b] w fun e w' => e = .returned (.int .i64 (verF f i b)) ∧ Below w.heap.size w w' := by
  have HK := Lib.hid (fun w h hN => xChk_any f v lo N w h hN hl)
  have HV := Lib.hid hv
  unfold fwv at *
  by_cases hz : chkF f = 0
  · have hzb : (chkF f != 0) = false := by simpa using hz
    rw [verF_zero hz]
    clear hz
    obtain ⟨a, cap, rfl, hc⟩ := hv
    by_cases h1 : i < 0
    · rw [verB_e1 (.inl h1)]
      clear hc
      go_enter Try.func27, Try.ntmps27
      go_wp2_with fail
      refine (HK.out _ (HV.out.below (below_box w _) hN) (by simp; omega)).mono ?_
      rintro e w1 ⟨rfl, hb1⟩
      obtain ⟨c0, c1, c2, _, hb2, hs⟩ := box3 hb1
      clear hb1
      go_wp2_with fail
      go_ret
      exact ⟨rfl, hb2⟩
    · by_cases h2 : (f.sums.length : Int) ≤ i
      · rw [verB_e1 (.inr h2)]
        clear hc
        go_enter Try.func27, Try.ntmps27
        go_wp2_with fail
        refine (HK.out _ (HV.out.below (below_box w _) hN) (by simp; omega)).mono ?_
        rintro e w1 ⟨rfl, hb1⟩
        obtain ⟨c0, c1, c2, _, hb2, hs⟩ := box3 hb1
        clear hb1
        go_wp2_with fail
        go_ret
        exact ⟨rfl, hb2⟩
      · obtain ⟨k, rfl⟩ := Int.eq_ofNat_of_zero_le (show 0 ≤ i by omega)
        have hkl : k < f.sums.length := by omega
        by_cases h3 : b.size = 0
        · rw [verB_e2 (by omega) (.inl h3)]
          have h3i : (b.size : Int) < 1 := by omega
          clear hc h3 hkl
          go_enter Try.func27, Try.ntmps27
          go_wp2_with fail
          refine (HK.out _ (HV.out.below (below_box w _) hN) (by simp; omega)).mono ?_
          rintro e w1 ⟨rfl, hb1⟩
          obtain ⟨c0, c1, c2, _, hb2, hs⟩ := box3 hb1
          clear hb1
          go_wp2_with fail
          go_ret
          exact ⟨rfl, hb2⟩
        · have h3i : ¬ (b.size : Int) < 1 := by omega
          by_cases h4 : 64 < b.size
          · rw [verB_e2 (by omega) (.inr (.inl h4))]
            have h4i : (64 : Int) < (b.size : Int) := by omega
            clear hc h3 hkl
            go_enter Try.func27, Try.ntmps27
            go_wp2_with fail
            refine (HK.out _ (HV.out.below (below_box w _) hN) (by simp; omega)).mono ?_
            rintro e w1 ⟨rfl, hb1⟩
            obtain ⟨c0, c1, c2, _, hb2, hs⟩ := box3 hb1
            clear hb1
            go_wp2_with fail
            go_ret
            exact ⟨rfl, hb2⟩
          · have h4i : ¬ (64 : Int) < (b.size : Int) := by omega
            by_cases h5 : b.size < 64 ∧ (k : Int) ≠ f.sums.length - 1
            · rw [verB_e2 (by omega) (.inr (.inr h5))]
              have h5i : (b.size : Int) < 64 := by omega
              have h5j : (k : Int) + 1 < (f.sums.length : Int) := by omega
              clear hc h3 hkl h5
              go_enter Try.func27, Try.ntmps27
              go_wp2_with fail
              refine (HK.out _ (HV.out.below (below_box w _) hN) (by simp; omega)).mono ?_
              rintro e w1 ⟨rfl, hb1⟩
              obtain ⟨c0, c1, c2, _, hb2, hs⟩ := box3 hb1
              clear hb1
              go_wp2_with fail
              go_ret
              exact ⟨rfl, hb2⟩
            · rw [verB_e3 (by omega) (by omega), Int.toNat_natCast]
              obtain ⟨bk, off, rfl, _, hbN, hcell⟩ := hc (by intro h; rw [h] at hkl; simp at hkl)
              have hbw : bk < w.heap.size := by omega
              have hck := hcell k hkl
              have hgd : f.sums.getD k 0 = f.sums[k] := by rw [List.getD_eq_getElem?_getD, List.getElem?_eq_getElem hkl]; rfl
              rw [hgd]
              have HC := Lib.hid (fun w => xSum_any b w hb)
              clear hcell hgd
              generalize f.sums[k] = x at *
              generalize sumB b = s at *
              have hq : (((b.size : Int) < 64) ∧ ¬ ((k : Int) + 1 < (f.sums.length : Int))) ∨ ¬ ((b.size : Int) < 64) := by
                by_cases h6 : b.size < 64
                · exact .inl ⟨by omega, by omega⟩
                · exact .inr (by omega)
              clear h3 h5
              have hkl2 : (k : Int) < (f.sums.length : Int) := by omega
              by_cases hx : s = x
              · have hxb : (s != x) = false := by simpa using hx
                rw [if_neg (by simp [hx])]
                clear hx
                rcases hq with ⟨hq1, hq2⟩ | hq1
                all_goals
                  go_enter Try.func27, Try.ntmps27
                  go_wp2_with fail
                  refine (HK.out _ (HV.out.below (below_box w _) hN) (by simp; omega)).mono ?_
                  rintro e w1 ⟨rfl, hb1⟩
                  obtain ⟨c0, c1, c2, _, hb2, hs⟩ := box3 hb1
                  have hbk1 : bk < w.heap.size := hbw
                  rw [← hb2.cell (p := ⟨bk, off + k, none⟩) hbk1] at hck
                  clear hb1
                  go_wp2_with fail
                  go_quiet ((go_at_call 50; exact quiet_ret (HC.out _)))
                  go_wp2_with fail
                  go_ret
                  exact ⟨rfl, Below.drewN' hb2 _⟩
              · have hxb : (s != x) = true := by simpa using hx
                rw [if_pos hx]
                clear hx
                rcases hq with ⟨hq1, hq2⟩ | hq1
                all_goals
                  go_enter Try.func27, Try.ntmps27
                  go_wp2_with fail
                  refine (HK.out _ (HV.out.below (below_box w _) hN) (by simp; omega)).mono ?_
                  rintro e w1 ⟨rfl, hb1⟩
                  obtain ⟨c0, c1, c2, _, hb2, hs⟩ := box3 hb1
                  have hbk1 : bk < w.heap.size := hbw
                  rw [← hb2.cell (p := ⟨bk, off + k, none⟩) hbk1] at hck
                  clear hb1
                  go_wp2_with fail
                  go_quiet ((go_at_call 50; exact quiet_ret (HC.out _)))
                  go_wp2_with fail
                  go_ret
                  exact ⟨rfl, Below.drewN' hb2 _⟩
  · have hzb : (chkF f != 0) = true := by simpa using hz
    rw [verF_bad hz]
    clear hz hv
    go_enter Try.func27, Try.ntmps27
    go_wp2_with fail
    refine (HK.out _ (HV.out.below (below_box w _) hN) (by simp; omega)).mono ?_
    rintro e w1 ⟨rfl, hb1⟩
    obtain ⟨c0, c1, c2, _, hb2, hs⟩ := box3 hb1
    clear hb1
    go_wp2_with fail
    refine (HK.out _ (HV.out.below hb2 hN) (by omega)).mono ?_
    rintro e w2 ⟨rfl, hb3⟩
    go_wp2_with fail
    go_ret
    exact ⟨rfl, bt hb2 hb3⟩
end Go.Proofs.Ytbbfbeacgnimpaa
