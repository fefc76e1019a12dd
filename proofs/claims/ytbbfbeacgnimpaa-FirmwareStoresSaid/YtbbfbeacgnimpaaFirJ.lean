/-
  The chapter's example in plain, and the walks of what compares lists and descriptions.
-/
import Derived.Test.YtbbfbeacgnimpaaFirI
open Go Go.RowKit Go.Proofs
namespace Go.Proofs.Ytbbfbeacgnimpaa
namespace Hub
def xs (n : Nat) : ByteArray := mk (List.replicate n 120)
theorem xs_size (n : Nat) : (xs n).size = n := by show (List.replicate n (120 : UInt8)).length = n; simp
theorem xs_succ (n : Nat) : xs n ++ ⟨#[120]⟩ = xs (n + 1) := by
  apply bl_inj; rw [bl_append, xs, xs, bl_mk, bl_mk, List.replicate_succ']; rfl
def exF : Fw := ⟨3, 7, [sumB (blk (xs 100) 0), sumB (blk (xs 100) 1)]⟩
theorem ex_nblk : nblk (xs 100) = 2 := by rw [nblk, xs_size]
theorem ex_blks : blks (xs 100) = [blk (xs 100) 0, blk (xs 100) 1] := by rw [blks, ex_nblk]; rfl
theorem ex_make : makeF 3 7 (xs 100) = (exF, [blk (xs 100) 0, blk (xs 100) 1], 0) ∧ chkF exF = 0 := by
  obtain ⟨h1, h2⟩ := makeF_ok 3 7 (xs 100) (by decide) (by rw [xs_size]; decide) (by rw [xs_size]; decide)
  rw [ex_blks] at h1 h2
  exact ⟨h1, h2⟩
theorem ex_size0 : (blk (xs 100) 0).size = 64 := by rw [blk_size, xs_size]; rfl
theorem ex_size1 : (blk (xs 100) 1).size = 36 := by rw [blk_size, xs_size]; rfl
theorem ex_ver1 : verF exF 1 (blk (xs 100) 1) = 0 := by
  rw [verF_zero ex_make.2]
  have h := verB_blk (xs 100) 1 (by rw [ex_nblk]; decide)
  rw [ex_blks] at h
  exact h
theorem ex_put : putF exF [] [] 1 (blk (xs 100) 1) = ([false, true], [ByteArray.empty, blk (xs 100) 1], 0) := by
  rw [putF_good (by rw [ex_ver1]; simp)]; rfl
theorem ex_whole : wholeF exF [false, true] [ByteArray.empty, blk (xs 100) 1] = ([], 5) := by
  rw [wholeF_e2 (by rw [ex_make.2]; simp) (by rw [haveL, if_pos ⟨rfl, rfl⟩]; simp)]
theorem ex_ver0 : verF exF 0 (xs 60) = 3 := by
  rw [verF_zero ex_make.2, verB_e2 (by simp [exF]) (.inr (.inr ⟨by rw [xs_size]; decide, by simp [exF]⟩))]
theorem ex_miss0 : missF exF [] = [0, 1] := by rw [missF_zero ex_make.2]; rfl
theorem ex_miss1 : missF exF [false, true] = [0] := by rw [missF_zero ex_make.2]; rfl
end Hub
open Hub

theorem data_any (n : Nat) (w : World) (hn : n ≤ 1000) : Calls Try.prog 35 #[.int .i64 n] w fun e w' => e = .returned (.string (xs n)) ∧ w = w' := by
  go_enter Try.func35, Try.ntmps35
  go_wp2
  go_loop [3, 4] (fun u i => ∃ k : Nat, k ≤ n ∧ i = .int .i64 k ∧ u = .string (xs k)) (fun _ i => n - (intOf i).toNat)
  case atStart => exact ⟨0, Nat.zero_le _, rfl, rfl⟩
  case round =>
    obtain ⟨k, hk, rfl, rfl⟩ := hrel
    have hs := xs_succ k
    have hz := xs_size k
    by_cases hlt : k < n
    · have HS := Lib.hid hs
      clear hs
      generalize xs k = K at *
      go_wp2
      first | rw [HS.out] | skip
      exact ⟨⟨k + 1, by omega, by go_num, by first | rfl | rw [HS.out]⟩, by simp [intOf]; omega⟩
    · obtain rfl : k = n := by omega
      go_wp2
      go_ret
      exact ⟨rfl, rfl⟩

/-- Two lists of numbers are the same. -/
theorem nums_any (v v' : Value) (l l' : List Int) (lo N lo' N' : Nat) (w : World) (hv : IntsAt lo N w v l) (hv' : IntsAt lo' N' w v' l') (hl : l.length ≤ 1099511627776) :
    Calls Try.prog 29 #[v, v'] w fun e w' => e = .returned (.bool (decide (l = l'))) ∧ ∃ n, w' = w.drewN n := by
  obtain ⟨a, cap, rfl, hc⟩ := hv
  obtain ⟨a', cap', rfl, hc'⟩ := hv'
  have HC := Lib.hid hc
  have HC' := Lib.hid hc'
  clear hc hc'
  by_cases hne : l.length = l'.length
  · have HN := Lib.hid hne
    rw [← hne]
    clear hne
    obtain ⟨L, hL⟩ : ∃ L, l.length = L := ⟨_, rfl⟩
    rw [hL]
    rw [hL] at hl
    have HL := Lib.hid hL
    clear hL
    go_enter Try.func29, Try.ntmps29
    go_wp2_with fail
    go_loopw [5] (fun i wr => ∃ k : Nat, k ≤ L ∧ i = .int .i64 k ∧ l.take k = l'.take k ∧ ∃ n, wr = w.drewN n) (fun i _ => L - (intOf i).toNat)
    case atStart => exact ⟨0, Nat.zero_le _, rfl, rfl, 0, rfl⟩
    case round =>
      obtain ⟨k, hk, rfl, hk2, n, rfl⟩ := hrel
      have HK := Lib.hid hk2
      clear hk2
      by_cases hlt : k < L
      · have h1 : k < l.length := by rw [HL.out]; exact hlt
        have h2 : k < l'.length := by rw [← HN.out, HL.out]; exact hlt
        obtain ⟨b, off, rfl, _, hbN, hcell⟩ := HC.out (by intro h; rw [h] at h1; simp at h1)
        obtain ⟨b', off', rfl, _, hbN', hcell'⟩ := HC'.out (by intro h; rw [h] at h2; simp at h2)
        have e1 := hcell k h1
        have e2 := hcell' k h2
        have HT := Lib.hid (show l.take (k + 1) = l.take k ++ [l[k]] from List.take_succ_eq_append_getElem h1)
        have HT' := Lib.hid (show l'.take (k + 1) = l'.take k ++ [l'[k]] from List.take_succ_eq_append_getElem h2)
        have HG := Lib.hid (fun h : l = l' => show l[k] = l'[k] from by subst h; rfl)
        clear hcell hcell'
        generalize l[k] = x at *
        generalize l'[k] = y at *
        clear h1 h2
        by_cases hxy : x = y
        · have hb : (x != y) = false := by simpa using hxy
          have HXY := Lib.hid hxy
          clear hxy
          go_wp2_with fail
          go_quiet (fail)
          go_wp2_with fail
          go_roundw
          case rel => exact ⟨k + 1, by omega, by go_num, by rw [HT.out, HT'.out, HK.out, HXY.out], _, rfl⟩
          case measure => simp [intOf]; omega
        · have hb : (x != y) = true := by simpa using hxy
          have HXY := Lib.hid (show ¬ l = l' from fun h => hxy (HG.out h))
          clear hxy
          go_wp2_with fail
          go_quiet (fail)
          go_wp2_with fail
          go_ret
          exact ⟨by rw [decide_eq_false HXY.out]; rfl, n + _, drewN_add _ _ _⟩
      · obtain rfl : k = L := by omega
        go_wp2_with fail
        go_ret
        have he : l = l' := by
          have h1 := HK.out
          rw [List.take_of_length_le (by rw [HL.out]; omega), List.take_of_length_le (by rw [← HN.out, HL.out]; omega)] at h1
          exact h1
        exact ⟨by rw [decide_eq_true he]; rfl, _, rfl⟩
  · have hb : ((l.length : Int) != (l'.length : Int)) = true := by simp; omega
    have hd : ¬ l = l' := fun h => hne (by rw [h])
    rw [decide_eq_false hd]
    clear hne hd
    go_enter Try.func29, Try.ntmps29
    go_wp2_with fail
    go_ret
    exact ⟨rfl, 0, rfl⟩

set_option maxHeartbeats 1000000 in
theorem sameF_any (f g : Fw) (v u : Value) (lo N lo' N' : Nat) (w : World) (hv : IntsAt lo N w v f.sums) (hu : IntsAt lo' N' w u g.sums) (hN : N ≤ w.heap.size) (hN' : N' ≤ w.heap.size) (hl : f.sums.length ≤ 1099511627776) :
    Calls Try.prog 14 #[fwv f v, fwv g u] w fun e w' => e = .returned (.bool (decide (f.ven = g.ven) && (decide (f.ver = g.ver) && decide (f.sums = g.sums)))) ∧ Below w.heap.size w w' := by
  have HB := Lib.hid ((below_box w (.cells #[.int .i64 f.ven, .int .i64 f.ver, v] 24)).trans ((below_box (w.alloc (.cells #[.int .i64 f.ven, .int .i64 f.ver, v] 24)) (.cells #[.int .i64 g.ven, .int .i64 g.ver, u] 24)).mono (by simp)))
  have HS := Lib.hid (fun w' (k : Below w.heap.size w w') => nums_any v u _ _ _ _ _ _ w' (hv.below k hN) (hu.below k hN') hl)
  obtain ⟨a, cap, rfl, _⟩ := hv
  obtain ⟨a', cap', rfl, _⟩ := hu
  unfold fwv
  by_cases h1 : f.ven = g.ven
  · have b1 : (f.ven == g.ven) = true := by simpa using h1
    by_cases h2 : f.ver = g.ver
    · have b2 : (f.ver == g.ver) = true := by simpa using h2
      rw [decide_eq_true h1, decide_eq_true h2, Bool.true_and, Bool.true_and]
      clear h1 h2
      generalize decide (f.sums = g.sums) = D at *
      go_enter Try.func14, Try.ntmps14
      go_wp2_with (refine (HS.out _ HB.out).mono ?_; rintro e w1 ⟨rfl, n1, rfl⟩)
      go_ret
      exact ⟨rfl, Below.drewN' HB.out n1⟩
    · have b2 : (f.ver == g.ver) = false := by simpa using h2
      rw [decide_eq_false h2, Bool.false_and, Bool.and_false]
      clear h1 h2
      go_enter Try.func14, Try.ntmps14
      go_wp2_with fail
      go_ret
      exact ⟨rfl, HB.out⟩
  · have b1 : (f.ven == g.ven) = false := by simpa using h1
    rw [decide_eq_false h1, Bool.false_and]
    clear h1
    go_enter Try.func14, Try.ntmps14
    go_wp2_with fail
    go_ret
    exact ⟨rfl, HB.out⟩
end Go.Proofs.Ytbbfbeacgnimpaa
