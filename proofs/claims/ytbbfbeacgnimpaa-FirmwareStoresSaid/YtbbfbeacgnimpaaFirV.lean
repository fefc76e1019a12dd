/-
  Equality of lists of booleans, the reference's; the law: the description of an image is the reference's.
-/
import Derived.Test.YtbbfbeacgnimpaaFirT
import Derived.Test.YtbbfbeacgnimpaaFirU
import Derived.Test.YtbbfbeacgnimpaaFirK
open Go Go.RowKit Go.Proofs
namespace Go.Proofs.Ytbbfbeacgnimpaa
namespace Hub
theorem makeF_len (ven ver : Int) (s : ByteArray) : (makeF ven ver s).1.sums.length ≤ s.size + 63 ∧ (makeF ven ver s).2.1.length ≤ s.size + 63 := by
  rw [makeF]
  split
  · exact ⟨Nat.zero_le _, Nat.zero_le _⟩
  · split
    · exact ⟨Nat.zero_le _, Nat.zero_le _⟩
    · split
      · exact ⟨Nat.zero_le _, Nat.zero_le _⟩
      · have h : nblk s = (s.size + 63) / 64 := rfl
        simp only [List.length_map, blks_length]; omega
end Hub
open Hub

set_option maxHeartbeats 1000000 in
theorem flags_any (v v' : Value) (l l' : List Bool) (lo N lo' N' : Nat) (w : World) (hv : BoolsAt lo N w v l) (hv' : BoolsAt lo' N' w v' l') (hl : l.length ≤ 1099511627776) :
    Calls Try.prog 28 #[v, v'] w fun e w' => e = .returned (.bool (decide (l = l'))) ∧ ∃ n, w' = w.drewN n := by
  obtain ⟨a, cap, rfl, _, hc⟩ := hv
  obtain ⟨a', cap', rfl, _, hc'⟩ := hv'
  have HC := Lib.hid hc
  have HC' := Lib.hid hc'
  clear hc hc'
  by_cases hne : l.length = l'.length
  · have HN := Lib.hid hne
    rw [← hne]
    clear hne
    obtain ⟨L, hL⟩ : ∃ L, l.length = L := ⟨_, rfl⟩
    rw [hL]
    rw [hL] at hl
    have HL := Lib.hid hL
    clear hL
    go_enter Try.func28, Try.ntmps28
    go_wp2_with fail
    go_loopw [5] (fun i wr => ∃ k : Nat, k ≤ L ∧ i = .int .i64 k ∧ l.take k = l'.take k ∧ ∃ n, wr = w.drewN n) (fun i _ => L - (intOf i).toNat)
    case atStart => exact ⟨0, Nat.zero_le _, rfl, rfl, 0, rfl⟩
    case round =>
      obtain ⟨k, hk, rfl, hk2, n, rfl⟩ := hrel
      have HK := Lib.hid hk2
      clear hk2
      by_cases hlt : k < L
      · have h1 : k < l.length := by rw [HL.out]; exact hlt
        have h2 : k < l'.length := by rw [← HN.out, HL.out]; exact hlt
        obtain ⟨b, off, rfl, _, hbN, hcell⟩ := HC.out (by intro h; rw [h] at h1; simp at h1)
        obtain ⟨b', off', rfl, _, hbN', hcell'⟩ := HC'.out (by intro h; rw [h] at h2; simp at h2)
        have e1 := hcell k h1
        have e2 := hcell' k h2
        have HT := Lib.hid (show l.take (k + 1) = l.take k ++ [l[k]] from List.take_succ_eq_append_getElem h1)
        have HT' := Lib.hid (show l'.take (k + 1) = l'.take k ++ [l'[k]] from List.take_succ_eq_append_getElem h2)
        have HG := Lib.hid (fun h : l = l' => show l[k] = l'[k] from by subst h; rfl)
        clear hcell hcell'
        generalize l[k] = x at *
        generalize l'[k] = y at *
        clear h1 h2
        cases x <;> cases y
        · go_wp2_with fail
          go_quiet (fail)
          go_wp2_with fail
          go_roundw
          case rel => exact ⟨k + 1, by omega, by go_num, by rw [HT.out, HT'.out, HK.out], _, rfl⟩
          case measure => simp [intOf]; omega
        · have HXY := Lib.hid (show ¬ l = l' from fun h => absurd (HG.out h) (by decide))
          go_wp2_with fail
          go_quiet (fail)
          go_wp2_with fail
          go_ret
          exact ⟨by rw [decide_eq_false HXY.out]; rfl, n + _, drewN_add _ _ _⟩
        · have HXY := Lib.hid (show ¬ l = l' from fun h => absurd (HG.out h) (by decide))
          go_wp2_with fail
          go_quiet (fail)
          go_wp2_with fail
          go_ret
          exact ⟨by rw [decide_eq_false HXY.out]; rfl, n + _, drewN_add _ _ _⟩
        · go_wp2_with fail
          go_quiet (fail)
          go_wp2_with fail
          go_roundw
          case rel => exact ⟨k + 1, by omega, by go_num, by rw [HT.out, HT'.out, HK.out], _, rfl⟩
          case measure => simp [intOf]; omega
      · obtain rfl : k = L := by omega
        go_wp2_with fail
        go_ret
        have he : l = l' := by
          have h1 := HK.out
          rw [List.take_of_length_le (by rw [HL.out]; omega), List.take_of_length_le (by rw [← HN.out, HL.out]; omega)] at h1
          exact h1
        exact ⟨by rw [decide_eq_true he]; rfl, _, rfl⟩
  · have hb : ((l.length : Int) != (l'.length : Int)) = true := by simp; omega
    have hd : ¬ l = l' := fun h => hne (by rw [h])
    rw [decide_eq_false hd]
    clear hne hd
    go_enter Try.func28, Try.ntmps28
    go_wp2_with fail
    go_ret
    exact ⟨rfl, 0, rfl⟩

set_option maxHeartbeats 1000000 in
theorem lawMakes (ven ver : Int) (s : ByteArray) (w : World) (_h0 : -9223372036854775808 ≤ ven) (_h1 : ven ≤ 9223372036854775807) (_h2 : -9223372036854775808 ≤ ver) (_h3 : ver ≤ 9223372036854775807) (_hs : s.size ≤ maxLen) :
    Calls Try.prog 5 #[.int .i64 ven, .int .i64 ver, .string s] w fun e w' => e = .returned (.bool true) ∧ Below w.heap.size w w' := by
  by_cases hj : 5000 < s.size
  · have hji : (5000 : Int) < (s.size : Int) := by omega
    clear _hs
    go_enter Try.func5, Try.ntmps5
    go_wp2_with (refine (awake_any _).mono ?_; rintro e w1 ⟨rfl, hb⟩)
    go_ret
    exact ⟨rfl, hb⟩
  · have hji : ¬ (5000 : Int) < (s.size : Int) := by omega
    have HA := Lib.hid (fun w => make_any ven ver s w (by omega))
    have HX := Lib.hid (fun w => xMake_any ven ver s w (by omega))
    obtain ⟨hl1, hl2⟩ := makeF_len ven ver s
    have hl1' : (makeF ven ver s).1.sums.length ≤ 1099511627776 := by omega
    have hl2' : (makeF ven ver s).2.1.length ≤ 1099511627776 := by omega
    clear _hs _h0 _h1 _h2 _h3 hl1 hl2
    generalize makeF ven ver s = M at *
    have HS := Lib.hid (fun w' v u lo N lo' N' hv hu hN hN' => sameF_any M.1 M.1 v u lo N lo' N' w' hv hu hN hN' hl1')
    simp only [decide_true, Bool.and_true] at HS
    have HT := Lib.hid (fun w' v u lo N lo' N' hv hu => texts_any v u M.2.1 M.2.1 lo N lo' N' w' hv hu hl2')
    rw [decide_eq_true rfl] at HT
    clear hl1' hl2'
    unfold fwv at *
    go_enter Try.func5, Try.ntmps5
    go_wp2_with fail
    refine (HA.out _).mono ?_
    rintro e w1 ⟨v1, u1, rfl, hv1, hu1, hb1⟩
    obtain ⟨a1, k1, rfl, -⟩ := id hv1
    have hF1 : Fb w1.heap.size (.int .i64 M.1.ven) (.int .i64 M.1.ver) (.slice a1 M.1.sums.length k1) (w1.alloc (.cells #[.int .i64 M.1.ven, .int .i64 M.1.ver, .slice a1 M.1.sums.length k1] 24)) := heap_alloc_new w1 _
    have hx1 := below_box w1 (.cells #[.int .i64 M.1.ven, .int .i64 M.1.ver, .slice a1 M.1.sums.length k1] 24)
    have hw2 : Below w.heap.size w (w1.alloc (.cells #[.int .i64 M.1.ven, .int .i64 M.1.ver, .slice a1 M.1.sums.length k1] 24)) := bt hb1 hx1
    have hv2 := hv1.below hx1 (Nat.le_refl _)
    have hu2 := hu1.below hx1 (Nat.le_refl _)
    clear hb1 hv1 hu1
    go_wp2_with fail
    refine (HX.out _).mono ?_
    rintro e w3 ⟨v3, u3, rfl, hv3, hu3, hb3⟩
    have hn1 : w1.heap.size ≤ w3.heap.size := Nat.le_trans hx1.size hb3.size
    have hF3 := hF1.below hb3 hF1.lt
    have hv23 := hv2.below hb3 hx1.size
    have hu23 := hu2.below hb3 hx1.size
    have hw3 := bt hw2 hb3
    obtain ⟨a3, k3, rfl, -⟩ := id hv3
    have hG3 : Fb w3.heap.size (.int .i64 M.1.ven) (.int .i64 M.1.ver) (.slice a3 M.1.sums.length k3) (w3.alloc (.cells #[.int .i64 M.1.ven, .int .i64 M.1.ver, .slice a3 M.1.sums.length k3] 24)) := heap_alloc_new w3 _
    have hx3 := below_box w3 (.cells #[.int .i64 M.1.ven, .int .i64 M.1.ver, .slice a3 M.1.sums.length k3] 24)
    have hF4 := hF3.below hx3 hF3.lt
    have hv24 := hv23.below hx3 hn1
    have hu24 := hu23.below hx3 hn1
    have hv34 := hv3.below hx3 (Nat.le_refl _)
    have hu34 := hu3.below hx3 (Nat.le_refl _)
    have hw4 : Below w.heap.size w (w3.alloc (.cells #[.int .i64 M.1.ven, .int .i64 M.1.ver, .slice a3 M.1.sums.length k3] 24)) := bt hw3 hx3
    have hn14 := Nat.le_trans hn1 hx3.size
    have hn34 := hx3.size
    have c0 := hF4.c0
    have c1 := hF4.c1
    have c2 := hF4.c2
    have d0 := hG3.c0
    have d1 := hG3.c1
    have d2 := hG3.c2
    have HSx := Lib.hid (HS.out _ _ _ _ _ _ _ hv24 hv34 hn14 hn34)
    have HTx := Lib.hid (fun w' (k : Below (w3.alloc (.cells #[.int .i64 M.1.ven, .int .i64 M.1.ver, .slice a3 M.1.sums.length k3] 24)).heap.size (w3.alloc (.cells #[.int .i64 M.1.ven, .int .i64 M.1.ver, .slice a3 M.1.sums.length k3] 24)) w') => HT.out w' _ _ _ _ _ _ (hu24.below k hn14) (hu34.below k hn34))
    obtain ⟨b1, q1, rfl, -⟩ := id hu2
    obtain ⟨b3, q3, rfl, -⟩ := id hu3
    clear hF1 hx1 hw2 hv2 hu2 hb3 hn1 hF3 hv23 hu23 hw3 hv3 hu3 hG3 hx3 hF4 hv24 hu24 hv34 hu34 hn14 hn34 HS HT HA HX
    go_wp2_with (first | (go_at_call 14; refine HSx.out.mono ?_; rintro e w5 ⟨rfl, hb5⟩; have HTy := Lib.hid (HTx.out _ hb5)) | (go_at_call 22; refine HTy.out.mono ?_; rintro e w6 ⟨rfl, n6, rfl⟩) | (go_at_call 10; refine (awake_any _).mono ?_; rintro e w7 ⟨rfl, hb7⟩))
    go_ret
    exact ⟨rfl, bt hw4 (bt (Below.drewN' hb5 n6) hb7)⟩
end Go.Proofs.Ytbbfbeacgnimpaa
