/-
  Fragments: the walk of the law on the form of the pieces.
-/
import Derived.Test.YtmjamjadfnbkdaaFub
import Derived.Test.YtmjamjadfnbkdaaFst
open Go Go.RowKit Go.Proofs
namespace Go.Proofs.Ytmjamjadfnbkdaa
namespace Hub
theorem piece_facts {s : ByteArray} {id' : Int} (hs : s.size ≤ 1000) (h0 : 0 ≤ id') (h1 : id' ≤ 255) {k : Nat} (hk : k < cntS s) :
    3 ≤ (pieceF s id' (cntS s) k).size ∧ (pieceF s id' (cntS s) k).size ≤ 67 ∧ byI (pieceF s id' (cntS s) k) 0 = id' ∧ byI (pieceF s id' (cntS s) k) 1 = (k : Int) ∧ byI (pieceF s id' (cntS s) k) 2 = (cntS s : Int) ∧
    chkF (pieceF s id' (cntS s) k) = 0 ∧ mk ((bl s).take (64 * k)) ++ (pieceF s id' (cntS s) k).extract 3 (pieceF s id' (cntS s) k).size = mk ((bl s).take (64 * (k + 1))) := by
  have h2 := cntS_le s hs
  have h3 := pieceF_size s id' (cntS s) k
  have h4 := dataF_le s k
  exact ⟨by omega, by omega, pieceF_b0 h0 h1, pieceF_b1 (by omega), pieceF_b2 (by omega), pieceF_chk hs hk, by rw [pieceF_data, data_next]⟩
theorem take_end (s : ByteArray) : mk ((bl s).take (64 * cntS s)) = s := by rw [List.take_of_length_le (by rw [size_bl]; exact cntS_cover s), mk_bl]
theorem take_size (s : ByteArray) (n : Nat) : (mk ((bl s).take n)).size ≤ s.size := by rw [size_mk, List.length_take, size_bl]; omega
/-- The pieces of a message, in memory. -/
theorem pcs_cells {s : ByteArray} {id' : Int} {lo N : Nat} {w : World} {v : Value} (h : StrsAt lo N w v (pcsN s id' (cntS s) (cntS s))) :
    ∃ b off cap, v = .slice (some ⟨b, off, none⟩) (cntS s) cap ∧ b < N ∧ ∀ k, k < cntS s → w.cell? ⟨b, off + k, none⟩ = some (.string (pieceF s id' (cntS s) k)) := by
  obtain ⟨a, cap, rfl, _, hc⟩ := h
  have hl : (pcsN s id' (cntS s) (cntS s)).length = cntS s := pcsN_length _ _ _ _
  have hp := cntS_pos s
  obtain ⟨b, off, rfl, _, hb, hcell⟩ := hc (by intro e; rw [e] at hl; simp at hl; omega)
  refine ⟨b, off, cap, by rw [hl], hb, fun k hk => ?_⟩
  rw [hcell k (by rw [hl]; exact hk), pcsN_at]
end Hub
open Hub

set_option maxHeartbeats 2000000 in
theorem lawForms (s : ByteArray) (id' : Int) (w : World) (_hs : s.size ≤ maxLen) (_h0 : -9223372036854775808 ≤ id') (_h1 : id' ≤ 9223372036854775807) :
    Calls Try.prog 6 #[.string s, .int .i64 id'] w fun e w' => e = .returned (.bool true) ∧ Below w.heap.size w w' := by
  by_cases hj : 1000 < s.size
  · have hji : (1000 : Int) < (s.size : Int) := by omega
    clear _hs _h0 _h1
    go_enter Try.func6, Try.ntmps6
    go_wp2_with (refine (awake_any _).mono ?_; rintro e w1 ⟨rfl, hb⟩)
    go_ret
    exact ⟨rfl, hb⟩
  · have hji : ¬ (1000 : Int) < (s.size : Int) := by omega
    clear _hs _h0 _h1
    by_cases hi0 : id' < 0
    · go_enter Try.func6, Try.ntmps6
      go_wp2_with (refine (awake_any _).mono ?_; rintro e w1 ⟨rfl, hb⟩)
      go_ret
      exact ⟨rfl, hb⟩
    · by_cases hi1 : 255 < id'
      · go_enter Try.func6, Try.ntmps6
        go_wp2_with (refine (awake_any _).mono ?_; rintro e w1 ⟨rfl, hb⟩)
        go_ret
        exact ⟨rfl, hb⟩
      · have HS := Lib.hid (fun W => split_any s id' W (by omega))
        rw [splitF_ok (by omega) (by omega) (by omega)] at HS
        have HP := Lib.hid (fun k (hk : k < cntS s) => piece_facts (id' := id') (show s.size ≤ 1000 by omega) (by omega) (by omega) hk)
        have HC := Lib.hid (fun lo N w v => pcs_cells (s := s) (id' := id') (lo := lo) (N := N) (w := w) (v := v))
        have HE := Lib.hid (take_end s)
        have HZ := Lib.hid (fun k => take_size s (64 * k))
        have n1 := cntS_pos s
        have n16 := cntS_le s (by omega)
        have hsz : s.size ≤ 1000 := by omega
        have hii : (id' != id') = false := bne_self_eq_false _
        have hss : (s.toList == s.toList) = true := beq_self_eq_true _
        generalize cntS s = n at *
        go_enter Try.func6, Try.ntmps6
        go_wp2_with fail
        refine (HS.out _).mono ?_
        rintro e w1 ⟨u, rfl, hu, hb1⟩
        obtain ⟨b, off, cap, rfl, hbb, hcell⟩ := HC.out _ _ _ _ hu
        have HCell := Lib.hid hcell
        have Hb1 := Lib.hid hb1
        have hnn : ((n : Int) != (n : Int)) = false := bne_self_eq_false _
        clear hu hcell hb1 HC HS
        go_wp2_with fail
        go_loopw [7, 42] (fun t q wr => ∃ k : Nat, k ≤ n ∧ q = .int .i64 k ∧ t = .string (mk ((bl s).take (64 * k))) ∧ Below w1.heap.size w1 wr) (fun _ q _ => n - (intOf q).toNat)
        case atStart => exact ⟨0, Nat.zero_le _, rfl, rfl, Below.refl _ _⟩
        case round =>
          obtain ⟨k, hk, rfl, rfl, hb⟩ := hrel
          by_cases hlt : k < n
          · have hki : (k : Int) < (n : Int) := by omega
            obtain ⟨z3, z67, f0, f1, f2, fc, fd⟩ := HP.out k hlt
            have c0 := (hb.cell (p := ⟨b, off + k, none⟩) hbb).trans (HCell.out k hlt)
            have hsz1 := HZ.out k
            generalize pieceF s id' n k = x at *
            have HK := Lib.hid (fun W => chk_any x W (by omega))
            rw [fc] at HK
            have e0 := byI_at x 0 (by omega)
            have e1 := byI_at x 1 (by omega)
            have e2 := byI_at x 2 (by omega)
            rw [f0] at e0
            rw [f1] at e1
            rw [f2] at e2
            have Hfd := Lib.hid fd
            have hkk : ((k : Int) != (k : Int)) = false := bne_self_eq_false _
            have p0 : (0 : Int) < (x.size : Int) := by omega
            have p1 : (1 : Int) < (x.size : Int) := by omega
            have p2 : (2 : Int) < (x.size : Int) := by omega
            have p3 : (3 : Int) ≤ (x.size : Int) := by omega
            have q3 : ¬ (x.size : Int) < 3 := by omega
            have q67 : ¬ (67 : Int) < (x.size : Int) := by omega
            have hxe : (x.extract 3 x.size).size ≤ 64 := by rw [ByteArray.size_extract]; omega
            generalize mk ((bl s).take (64 * k)) = z at *
            clear fc f0 f1 f2 fd
            go_wp2_with fail
            refine (HK.out _).mono ?_
            rintro e w2 ⟨rfl, hb2⟩
            have Hb2 := Lib.hid (bt hb hb2)
            clear hb2 c0
            go_wp2_with fail
            go_roundw
            case rel => exact ⟨k + 1, by omega, by go_num, by rw [Hfd.out], Hb2.out⟩
            case measure => simp [intOf]; omega
          · obtain rfl : k = n := by omega
            have HB := Lib.hid (bt Hb1.out hb)
            rw [HE.out]
            clear hb
            go_wp2_with (refine (awake_any _).mono ?_; rintro e w4 ⟨rfl, hb4⟩)
            go_ret
            exact ⟨rfl, bt HB.out hb4⟩
end Go.Proofs.Ytmjamjadfnbkdaa
