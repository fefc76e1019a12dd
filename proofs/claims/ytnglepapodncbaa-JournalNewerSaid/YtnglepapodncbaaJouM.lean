/-
  The walks of four laws: what is added, read, cut and chosen is the reference's; a cut journal is whole.
-/
import Derived.Test.YtnglepapodncbaaJouL
import Derived.Test.YtnglepapodncbaaJouH
open Go Go.RowKit Go.Proofs
namespace Go.Proofs.Ytnglepapodncbaa
namespace Hub
/-- A cut journal is whole, with the same records. -/
theorem cut_whole (j : List UInt8) (h : (scanJ j).1 ≠ 0) : scanJ (cutJ j) = ((scanJ j).1, (scanJ j).2.1, ((cutJ j).length : Int), 0) := by
  obtain ⟨t, h1, h2, h3, h4, h5, h6, _⟩ := scanJ_form j h
  have hc : cutJ j = hdJ (scanJ j).1 ++ recsJ (scanJ j).2.1 0 := by
    rw [cutJ, h6, Int.toNat_natCast]
    have key : ∀ x : List UInt8, j = x ++ t → j.take x.length = x := fun x h => by rw [h, List.take_left' rfl]
    exact key _ (by rw [List.append_assoc]; exact h5)
  have hl := congrArg List.length h5
  rw [List.length_append, List.length_append] at hl
  rw [hc]
  exact scanJ_whole h1 h2 h4 (by rw [List.length_append]; omega)
theorem cut_none (j : List UInt8) (h : (scanJ j).1 = 0) : cutJ j = [] := by rw [cutJ, scanJ_none j h]; rfl
end Hub
open Hub

set_option maxHeartbeats 1000000 in
theorem lawAdds (j p : ByteArray) (g : Int) (w : World) (_hs : j.size ≤ maxLen) (_hp : p.size ≤ maxLen) (h0 : -9223372036854775808 ≤ g) (h1 : g ≤ 9223372036854775807) :
    Calls Try.prog 3 #[.string j, .string p, .int .i64 g] w fun e w' => e = .returned (.bool true) ∧ Below w.heap.size w w' := by
  by_cases hj : 20000 < j.size
  · have hji : (20000 : Int) < (j.size : Int) := by omega
    clear _hs _hp
    go_enter Try.func3, Try.ntmps3
    go_wp2_with (refine (lives_any _).mono ?_; rintro e w1 ⟨rfl, hb⟩)
    go_ret
    exact ⟨rfl, hb⟩
  · have hji : ¬ (20000 : Int) < (j.size : Int) := by omega
    by_cases hq : 20000 < p.size
    · have hqi : (20000 : Int) < (p.size : Int) := by omega
      clear _hs _hp
      go_enter Try.func3, Try.ntmps3
      go_wp2_with (refine (lives_any _).mono ?_; rintro e w1 ⟨rfl, hb⟩)
      go_ret
      exact ⟨rfl, hb⟩
    · have hqi : ¬ (20000 : Int) < (p.size : Int) := by omega
      have HA := Lib.hid (fun w => wAdd_any j p w (by omega) (by omega))
      have HX := Lib.hid (fun w => xAdd_any j p w (by omega) (by omega))
      have HH := Lib.hid (fun w => wHead_any g w h0 h1)
      have HY := Lib.hid (fun w => xHead_any g w h0 h1)
      clear _hs _hp
      generalize mk (addJ (bl j) (bl p)).1 = A at *
      generalize (addJ (bl j) (bl p)).2 = B at *
      generalize mk (headJ g).1 = C at *
      generalize (headJ g).2 = D at *
      go_enter Try.func3, Try.ntmps3
      go_wp2_with (first | (go_at_call 11; refine (HA.out _).mono ?_; rintro e w1 ⟨rfl, hb1⟩) | (go_at_call 12; refine (HX.out _).mono ?_; rintro e w2 ⟨rfl, hb2⟩) | (go_at_call 13; refine (HH.out _).mono ?_; rintro e w3 ⟨rfl, hb3⟩) | (go_at_call 14; refine (HY.out _).mono ?_; rintro e w4 ⟨rfl, hb4⟩) | (go_at_call 10; refine (lives_any _).mono ?_; rintro e w5 ⟨rfl, hb5⟩))
      go_ret
      exact ⟨rfl, bt hb1 (bt hb2 (bt hb3 (bt hb4 hb5)))⟩

set_option maxHeartbeats 1000000 in
theorem lawTwo (a b : ByteArray) (w : World) (_hs : a.size ≤ maxLen) (_hp : b.size ≤ maxLen) :
    Calls Try.prog 7 #[.string a, .string b] w fun e w' => e = .returned (.bool true) ∧ Below w.heap.size w w' := by
  by_cases hj : 20000 < a.size
  · have hji : (20000 : Int) < (a.size : Int) := by omega
    clear _hs _hp
    go_enter Try.func7, Try.ntmps7
    go_wp2_with fail
    go_ret
    exact ⟨rfl, Below.refl _ _⟩
  · have hji : ¬ (20000 : Int) < (a.size : Int) := by omega
    by_cases hq : 20000 < b.size
    · have hqi : (20000 : Int) < (b.size : Int) := by omega
      clear _hs _hp
      go_enter Try.func7, Try.ntmps7
      go_wp2_with fail
      go_ret
      exact ⟨rfl, Below.refl _ _⟩
    · have hqi : ¬ (20000 : Int) < (b.size : Int) := by omega
      have HA := Lib.hid (fun w => wTwo_any a b w (by omega) (by omega))
      have HX := Lib.hid (fun w => xTwo_any a b w (by omega) (by omega))
      clear _hs _hp
      generalize mk (twoJ (bl a) (bl b)) = T at *
      go_enter Try.func7, Try.ntmps7
      go_wp2_with (first | (go_at_call 23; refine (HA.out _).mono ?_; rintro e w1 ⟨rfl, hb1⟩) | (go_at_call 24; refine (HX.out _).mono ?_; rintro e w2 ⟨rfl, hb2⟩) | (go_at_call 10; refine (lives_any _).mono ?_; rintro e w5 ⟨rfl, hb5⟩))
      go_ret
      exact ⟨rfl, bt hb1 (bt hb2 hb5)⟩

set_option maxHeartbeats 1000000 in
theorem lawScans (j : ByteArray) (w : World) (_hs : j.size ≤ maxLen) :
    Calls Try.prog 5 #[.string j] w fun e w' => e = .returned (.bool true) ∧ Below w.heap.size w w' := by
  by_cases hj : 20000 < j.size
  · have hji : (20000 : Int) < (j.size : Int) := by omega
    clear _hs
    go_enter Try.func5, Try.ntmps5
    go_wp2_with (refine (lives_any _).mono ?_; rintro e w1 ⟨rfl, hb⟩)
    go_ret
    exact ⟨rfl, hb⟩
  · have hji : ¬ (20000 : Int) < (j.size : Int) := by omega
    have HA := Lib.hid (fun w => wScan_any j w (by omega))
    have HX := Lib.hid (fun w => xScan_any j w (by omega))
    have HW := Lib.hid (fun w => wWhole_any j w (by omega))
    have HY := Lib.hid (fun w => xWhole_any j w (by omega))
    have HC := Lib.hid (fun w => wCut_any j w (by omega))
    have HZ := Lib.hid (fun w => xCut_any j w (by omega))
    obtain ⟨_, _, _, hlen⟩ := scanJ_bounds (bl j)
    rw [size_bl] at hlen
    clear _hs
    generalize scanJ (bl j) = S at *
    generalize wholeJ (bl j) = W at *
    generalize mk (cutJ (bl j)) = C at *
    go_enter Try.func5, Try.ntmps5
    go_wp2_with fail
    refine (HA.out _).mono ?_
    rintro e w1 ⟨v1, rfl, hv1, hb1⟩
    go_wp2_with fail
    refine (HX.out _).mono ?_
    rintro e w2 ⟨v2, rfl, hv2, hb2⟩
    have hv1' := hv1.below hb2 (Nat.le_refl _)
    have HS := Lib.hid (sameS_any v1 v2 _ _ _ _ _ _ w2 hv1' hv2 (by rw [List.length_map]; omega))
    rw [decide_eq_true rfl] at HS
    go_wp2_with (first | (go_at_call 17; refine HS.out.mono ?_; rintro e w3 ⟨rfl, n3, rfl⟩) | (go_at_call 19; refine (HW.out _).mono ?_; rintro e w4 ⟨rfl, hb4⟩) | (go_at_call 20; refine (HY.out _).mono ?_; rintro e w5 ⟨rfl, hb5⟩) | (go_at_call 21; refine (HC.out _).mono ?_; rintro e w6 ⟨rfl, hb6⟩) | (go_at_call 22; refine (HZ.out _).mono ?_; rintro e w7 ⟨rfl, hb7⟩) | (go_at_call 10; refine (lives_any _).mono ?_; rintro e w8 ⟨rfl, hb8⟩))
    go_ret
    exact ⟨rfl, bt hb1 (bt (Below.drewN' hb2 n3) (bt hb4 (bt hb5 (bt hb6 (bt hb7 hb8)))))⟩

set_option maxHeartbeats 1000000 in
theorem lawCut (j : ByteArray) (w : World) (_hs : j.size ≤ maxLen) :
    Calls Try.prog 6 #[.string j] w fun e w' => e = .returned (.bool true) ∧ Below w.heap.size w w' := by
  by_cases hj : 20000 < j.size
  · have hji : (20000 : Int) < (j.size : Int) := by omega
    clear _hs
    go_enter Try.func6, Try.ntmps6
    go_wp2_with (refine (lives_any _).mono ?_; rintro e w1 ⟨rfl, hb⟩)
    go_ret
    exact ⟨rfl, hb⟩
  · have hji : ¬ (20000 : Int) < (j.size : Int) := by omega
    have HA := Lib.hid (fun w => wScan_any j w (by omega))
    have HC := Lib.hid (fun w => wCut_any j w (by omega))
    obtain ⟨_, _, _, hlen⟩ := scanJ_bounds (bl j)
    rw [size_bl] at hlen
    clear _hs
    by_cases hg : (scanJ (bl j)).1 = 0
    · have hgb : ((scanJ (bl j)).1 == 0) = true := by simpa using hg
      rw [cut_none _ hg] at HC
      have hmn : mk [] = ⟨#[]⟩ := rfl
      rw [hmn] at HC
      clear hg hmn
      generalize scanJ (bl j) = S at *
      go_enter Try.func6, Try.ntmps6
      go_wp2_with fail
      refine (HA.out _).mono ?_
      rintro e w1 ⟨v1, rfl, hv1, hb1⟩
      go_wp2_with (first | (go_at_call 21; refine (HC.out _).mono ?_; rintro e w6 ⟨rfl, hb6⟩) | (go_at_call 10; refine (lives_any _).mono ?_; rintro e w8 ⟨rfl, hb8⟩))
      go_ret
      exact ⟨rfl, bt hb1 (bt hb6 hb8)⟩
    · have hgb : ((scanJ (bl j)).1 == 0) = false := by simpa using hg
      have hcw := cut_whole _ hg
      have hcl : (cutJ (bl j)).length ≤ j.size := by rw [cutJ, List.length_take, size_bl]; omega
      have hcz : (mk (cutJ (bl j))).size = (cutJ (bl j)).length := rfl
      have HA2 := Lib.hid (fun w => wScan_any (mk (cutJ (bl j))) w (by omega))
      have HW2 := Lib.hid (fun w => wWhole_any (mk (cutJ (bl j))) w (by omega))
      have hwh : wholeJ (cutJ (bl j)) = true := by rw [wholeJ, hcw]; rfl
      rw [bl_mk, hwh] at HW2
      rw [bl_mk, hcw, ← hcz] at HA2
      clear hg hcw hcl hcz hwh
      generalize scanJ (bl j) = S at *
      generalize mk (cutJ (bl j)) = C at *
      go_enter Try.func6, Try.ntmps6
      go_wp2_with fail
      refine (HA.out _).mono ?_
      rintro e w1 ⟨v1, rfl, hv1, hb1⟩
      go_wp2_with fail
      refine (HC.out _).mono ?_
      rintro e w2 ⟨rfl, hb2⟩
      go_wp2_with fail
      refine (HA2.out _).mono ?_
      rintro e w3 ⟨v3, rfl, hv3, hb3⟩
      have hv1' := hv1.below (hb2.trans (hb3.mono hb2.size)) (Nat.le_refl _)
      have HS := Lib.hid (sameS_any v3 v1 _ _ _ _ _ _ w3 hv3 hv1' (by rw [List.length_map]; omega))
      rw [decide_eq_true rfl] at HS
      go_wp2_with (first | (go_at_call 17; refine HS.out.mono ?_; rintro e w4 ⟨rfl, n4, rfl⟩) | (go_at_call 19; refine (HW2.out _).mono ?_; rintro e w5 ⟨rfl, hb5⟩) | (go_at_call 10; refine (lives_any _).mono ?_; rintro e w8 ⟨rfl, hb8⟩))
      go_ret
      exact ⟨rfl, bt hb1 (bt hb2 (bt (Below.drewN' hb3 n4) (bt hb5 hb8)))⟩
end Go.Proofs.Ytnglepapodncbaa
