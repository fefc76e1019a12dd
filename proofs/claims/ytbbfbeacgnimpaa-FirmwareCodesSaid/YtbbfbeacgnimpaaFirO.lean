/-
  The walk of the law: descriptions are checked, written, named and read as the reference does.
-/
import Derived.Test.YtbbfbeacgnimpaaFirK
import Derived.Test.YtbbfbeacgnimpaaFirN
open Go Go.RowKit Go.Proofs
namespace Go.Proofs.Ytbbfbeacgnimpaa
open Hub

set_option maxHeartbeats 2000000 in
theorem lawCodes (f : Fw) (v : Value) (s : ByteArray) (lo N : Nat) (w : World) (hv : IntsAt lo N w v f.sums) (hN : N ≤ w.heap.size) (hbd : IntB f.sums)
    (h0 : -9223372036854775808 ≤ f.ven) (h1 : f.ven ≤ 9223372036854775807) (h2 : -9223372036854775808 ≤ f.ver) (h3 : f.ver ≤ 9223372036854775807) (hs : s.size ≤ maxLen) (hl : f.sums.length ≤ maxLen) :
    Calls Try.prog 4 #[fwv f v, .string s] w fun e w' => e = .returned (.bool true) ∧ Below w.heap.size w w' := by
  have HV := Lib.hid (fun w' (k : Below w.heap.size w w') => hv.below k hN)
  obtain ⟨a, cap, rfl, -⟩ := hv
  have hW := below_box w (.cells #[.int .i64 f.ven, .int .i64 f.ver, .slice a f.sums.length cap] 24)
  by_cases g1 : 80 < f.sums.length
  · have g1i : (80 : Int) < (f.sums.length : Int) := by omega
    unfold fwv
    clear HV hl hbd
    generalize f.sums.length = L at *
    go_enter Try.func4, Try.ntmps4
    go_wp2_with (refine (awake_any _).mono ?_; rintro e w1 ⟨rfl, hb⟩)
    go_ret
    exact ⟨rfl, bt hW hb⟩
  · have g1i : ¬ (80 : Int) < (f.sums.length : Int) := by omega
    by_cases g2 : 700 < s.size
    · have g2i : (700 : Int) < (s.size : Int) := by omega
      unfold fwv
      clear HV hl hbd hs
      generalize f.sums.length = L at *
      go_enter Try.func4, Try.ntmps4
      go_wp2_with (refine (awake_any _).mono ?_; rintro e w1 ⟨rfl, hb⟩)
      go_ret
      exact ⟨rfl, bt hW hb⟩
    · have g2i : ¬ (700 : Int) < (s.size : Int) := by omega
      have hl1 : f.sums.length ≤ 1099511627776 := by omega
      have hdb := dec_ints (bl s)
      have HD := Lib.hid (fun w' => decFw_any s w' (by omega))
      have XD := Lib.hid (fun w' => xDec_any s w' (by omega))
      generalize decFw (bl s) = D at *
      have hF0 : Fb w.heap.size (.int .i64 f.ven) (.int .i64 f.ver) (.slice a f.sums.length cap) (w.alloc (.cells #[.int .i64 f.ven, .int .i64 f.ver, .slice a f.sums.length cap] 24)) := heap_alloc_new w _
      unfold fwv at *
      go_enter Try.func4, Try.ntmps4
      go_wp2_with fail
      refine (HD.out _).mono ?_
      rintro e w1 ⟨v1, rfl, hv1, hb1⟩
      have hF1 := hF0.below hb1 hF0.lt
      have hw1 := bt hW hb1
      obtain ⟨a1, k1, rfl, -⟩ := id hv1
      have hF51 : Fb w1.heap.size (.int .i64 D.1.ven) (.int .i64 D.1.ver) (.slice a1 D.1.sums.length k1) (w1.alloc (.cells #[.int .i64 D.1.ven, .int .i64 D.1.ver, (.slice a1 D.1.sums.length k1)] 24)) := heap_alloc_new w1 _
      have hx1 := below_box w1 (.cells #[.int .i64 D.1.ven, .int .i64 D.1.ver, (.slice a1 D.1.sums.length k1)] 24)
      have hF2 := hF1.below hx1 hF1.lt
      have hw2 : Below w.heap.size w (w1.alloc (.cells #[.int .i64 D.1.ven, .int .i64 D.1.ver, (.slice a1 D.1.sums.length k1)] 24)) := bt hw1 hx1
      have hv12 := hv1.below hx1 (Nat.le_refl _)
      clear hF0 hW hb1 hF1 hw1 hv1
      go_wp2_with fail
      refine (XD.out _).mono ?_
      rintro e w3 ⟨v2, rfl, hv2, hb3⟩
      have hF3 := hF2.below hb3 hF2.lt
      have hF53 := hF51.below hb3 hF51.lt
      have hw3 := bt hw2 hb3
      have hv13 := hv12.below hb3 hx1.size
      have hn1 : w1.heap.size ≤ w3.heap.size := Nat.le_trans hx1.size hb3.size
      obtain ⟨a2, k2, rfl, -⟩ := id hv2
      have hF74 : Fb w3.heap.size (.int .i64 D.1.ven) (.int .i64 D.1.ver) (.slice a2 D.1.sums.length k2) (w3.alloc (.cells #[.int .i64 D.1.ven, .int .i64 D.1.ver, (.slice a2 D.1.sums.length k2)] 24)) := heap_alloc_new w3 _
      have hx3 := below_box w3 (.cells #[.int .i64 D.1.ven, .int .i64 D.1.ver, (.slice a2 D.1.sums.length k2)] 24)
      have hF4 := hF3.below hx3 hF3.lt
      have hF54 := hF53.below hx3 hF53.lt
      have hw4 : Below w.heap.size w (w3.alloc (.cells #[.int .i64 D.1.ven, .int .i64 D.1.ver, (.slice a2 D.1.sums.length k2)] 24)) := bt hw3 hx3
      have hv14 := hv13.below hx3 hn1
      have hv24 := hv2.below hx3 (Nat.le_refl _)
      have hn14 : w1.heap.size ≤ (w3.alloc (.cells #[.int .i64 D.1.ven, .int .i64 D.1.ver, (.slice a2 D.1.sums.length k2)] 24)).heap.size := Nat.le_trans hn1 hx3.size
      have hn34 := hx3.size
      clear hF2 hF51 hx1 hw2 hv12 hb3 hF3 hF53 hw3 hv13 hn1 hv2 hx3
      go_wp2_with fail
      generalize hWW : w3.alloc (.cells #[.int .i64 D.1.ven, .int .i64 D.1.ver, (.slice a2 D.1.sums.length k2)] 24) = W at *
      generalize Value.slice a1 D.1.sums.length k1 = v1 at *
      generalize Value.slice a2 D.1.sums.length k2 = v2 at *
      have HK := Lib.hid (fun w' (k : Below W.heap.size W w') => chk_any f _ lo N w' (HV.out w' (bt hw4 k)) (Nat.le_trans hN (bt hw4 k).size) hl1)
      have XK := Lib.hid (fun w' (k : Below W.heap.size W w') => xChk_any f _ lo N w' (HV.out w' (bt hw4 k)) (Nat.le_trans hN (bt hw4 k).size) hl1)
      have HE := Lib.hid (fun w' (k : Below W.heap.size W w') => encFw_any f _ lo N w' (HV.out w' (bt hw4 k)) (Nat.le_trans hN (bt hw4 k).size) (by omega) hbd h0 h1 h2 h3)
      have XE := Lib.hid (fun w' (k : Below W.heap.size W w') => xEnc_any f _ lo N w' (HV.out w' (bt hw4 k)) (Nat.le_trans hN (bt hw4 k).size) (by omega) hbd h0 h1 h2 h3)
      have HI := Lib.hid (fun w' (k : Below W.heap.size W w') => wId_any f _ lo N w' (HV.out w' (bt hw4 k)) (Nat.le_trans hN (bt hw4 k).size) (by omega) hbd h0 h1 h2 h3)
      have XI := Lib.hid (fun w' (k : Below W.heap.size W w') => xId_any f _ lo N w' (HV.out w' (bt hw4 k)) (Nat.le_trans hN (bt hw4 k).size) (by omega) hbd h0 h1 h2 h3)
      have hS := fun w' (k : Below W.heap.size W w') => sameF_any D.1 D.1 v1 v2 _ _ _ _ w' (hv14.below k hn14) (hv24.below k hn34) (Nat.le_trans hn14 k.size) (Nat.le_trans hn34 k.size) (by omega)
      simp only [decide_true, Bool.and_true] at hS
      have HS := Lib.hid hS
      have HF := Lib.hid (fun w' (k : Below W.heap.size W w') => (⟨(hF4.below k hF4.lt).c0, (hF4.below k hF4.lt).c1, (hF4.below k hF4.lt).c2⟩ : _ ∧ _ ∧ _))
      have HF5 := Lib.hid (fun w' (k : Below W.heap.size W w') => (⟨(hF54.below k hF54.lt).c0, (hF54.below k hF54.lt).c1, (hF54.below k hF54.lt).c2⟩ : _ ∧ _ ∧ _))
      have HF7 := Lib.hid (fun w' (k : Below W.heap.size W w') => (⟨(hF74.below k hF74.lt).c0, (hF74.below k hF74.lt).c1, (hF74.below k hF74.lt).c2⟩ : _ ∧ _ ∧ _))
      unfold fwv at HK XK HE XE HI XI HS
      have HW4 := Lib.hid hw4
      clear hS hF4 hF54 hF74 hv14 hv24 hn14 hn34 HD XD HV hdb hbd h0 h1 h2 h3 hw4 hWW
      generalize Value.slice a f.sums.length cap = v at *
      generalize sumB (mk (encFw f)) = I at *
      generalize mk (encFw f) = E at *
      generalize chkF f = c at *
      have hEE : (E.toList == E.toList) = true := beq_self_eq_true _
      refine wp_region_class (fun w' => Below W.heap.size W w') (by kernel_rfl) (by kernel_rfl) (Below.refl _ _).drew ?_
      refine BigFrame.wpQuiet_want rfl (fun K hK => ?_)
      refine quiet_val (.agg #[.int .i64 f.ven, .int .i64 f.ver, v]) (fun w' hC' => by obtain ⟨c0, c1, c2⟩ := HF.out _ hC'; go_simp) ?_
      go_simp
      refine hK _ ?_
      clear hK K
      refine BigFrame.wpQuiet_want rfl (fun K hK => ?_)
      refine quiet_enter (.int .i64 c) 11 #[.agg #[.int .i64 f.ven, .int .i64 f.ver, v]] (fun w' hC' => by go_simp) (fun w' hC' => (HK.out w' hC').mono fun e w'' ⟨he, hb⟩ => ⟨he, bt hC' hb⟩) ?_
      go_simp
      refine hK _ ?_
      clear hK K
      refine BigFrame.wpQuiet_want rfl (fun K hK => ?_)
      refine quiet_val (.agg #[.int .i64 f.ven, .int .i64 f.ver, v]) (fun w' hC' => by obtain ⟨c0, c1, c2⟩ := HF.out _ hC'; go_simp) ?_
      go_simp
      refine hK _ ?_
      clear hK K
      refine BigFrame.wpQuiet_want rfl (fun K hK => ?_)
      refine quiet_enter (.int .i64 c) 16 #[.agg #[.int .i64 f.ven, .int .i64 f.ver, v]] (fun w' hC' => by go_simp) (fun w' hC' => (XK.out w' hC').mono fun e w'' ⟨he, hb⟩ => ⟨he, bt hC' hb⟩) ?_
      go_simp
      refine hK _ ?_
      clear hK K
      refine BigFrame.wpQuiet_want rfl (fun K hK => ?_)
      refine quiet_val (.bool true) (fun w' hC' => by go_simp) ?_
      go_simp
      refine hK _ ?_
      clear hK K
      refine BigFrame.wpQuiet_want rfl (fun K hK => ?_)
      refine quiet_val (.bool true) (fun w' hC' => by go_simp) ?_
      go_simp
      refine hK _ ?_
      clear hK K
      refine BigFrame.wpQuiet_want rfl (fun K hK => ?_)
      refine quiet_val (.agg #[.int .i64 f.ven, .int .i64 f.ver, v]) (fun w' hC' => by obtain ⟨c0, c1, c2⟩ := HF.out _ hC'; go_simp) ?_
      go_simp
      refine hK _ ?_
      clear hK K
      refine BigFrame.wpQuiet_want rfl (fun K hK => ?_)
      refine quiet_enter (.string E) 13 #[.agg #[.int .i64 f.ven, .int .i64 f.ver, v]] (fun w' hC' => by go_simp) (fun w' hC' => (HE.out w' hC').mono fun e w'' ⟨he, hb⟩ => ⟨he, bt hC' hb⟩) ?_
      go_simp
      refine hK _ ?_
      clear hK K
      refine BigFrame.wpQuiet_want rfl (fun K hK => ?_)
      refine quiet_val (.agg #[.int .i64 f.ven, .int .i64 f.ver, v]) (fun w' hC' => by obtain ⟨c0, c1, c2⟩ := HF.out _ hC'; go_simp) ?_
      go_simp
      refine hK _ ?_
      clear hK K
      refine BigFrame.wpQuiet_want rfl (fun K hK => ?_)
      refine quiet_enter (.string E) 17 #[.agg #[.int .i64 f.ven, .int .i64 f.ver, v]] (fun w' hC' => by go_simp) (fun w' hC' => (XE.out w' hC').mono fun e w'' ⟨he, hb⟩ => ⟨he, bt hC' hb⟩) ?_
      go_simp
      refine hK _ ?_
      clear hK K
      refine BigFrame.wpQuiet_want rfl (fun K hK => ?_)
      refine quiet_val (.bool true) (fun w' hC' => by go_simp) ?_
      go_simp
      refine hK _ ?_
      clear hK K
      refine BigFrame.wpQuiet_want rfl (fun K hK => ?_)
      refine quiet_val (.bool true) (fun w' hC' => by go_simp) ?_
      go_simp
      refine hK _ ?_
      clear hK K
      refine BigFrame.wpQuiet_want rfl (fun K hK => ?_)
      refine quiet_val (.bool true) (fun w' hC' => by go_simp) ?_
      go_simp
      refine hK _ ?_
      clear hK K
      refine BigFrame.wpQuiet_want rfl (fun K hK => ?_)
      refine quiet_val (.agg #[.int .i64 f.ven, .int .i64 f.ver, v]) (fun w' hC' => by obtain ⟨c0, c1, c2⟩ := HF.out _ hC'; go_simp) ?_
      go_simp
      refine hK _ ?_
      clear hK K
      refine BigFrame.wpQuiet_want rfl (fun K hK => ?_)
      refine quiet_enter (.int .i64 I) 18 #[.agg #[.int .i64 f.ven, .int .i64 f.ver, v]] (fun w' hC' => by go_simp) (fun w' hC' => (HI.out w' hC').mono fun e w'' ⟨he, hb⟩ => ⟨he, bt hC' hb⟩) ?_
      go_simp
      refine hK _ ?_
      clear hK K
      refine BigFrame.wpQuiet_want rfl (fun K hK => ?_)
      refine quiet_val (.agg #[.int .i64 f.ven, .int .i64 f.ver, v]) (fun w' hC' => by obtain ⟨c0, c1, c2⟩ := HF.out _ hC'; go_simp) ?_
      go_simp
      refine hK _ ?_
      clear hK K
      refine BigFrame.wpQuiet_want rfl (fun K hK => ?_)
      refine quiet_enter (.int .i64 I) 19 #[.agg #[.int .i64 f.ven, .int .i64 f.ver, v]] (fun w' hC' => by go_simp) (fun w' hC' => (XI.out w' hC').mono fun e w'' ⟨he, hb⟩ => ⟨he, bt hC' hb⟩) ?_
      go_simp
      refine hK _ ?_
      clear hK K
      refine BigFrame.wpQuiet_want rfl (fun K hK => ?_)
      refine quiet_val (.bool true) (fun w' hC' => by go_simp) ?_
      go_simp
      refine hK _ ?_
      clear hK K
      refine BigFrame.wpQuiet_want rfl (fun K hK => ?_)
      refine quiet_val (.bool true) (fun w' hC' => by go_simp) ?_
      go_simp
      refine hK _ ?_
      clear hK K
      refine BigFrame.wpQuiet_want rfl (fun K hK => ?_)
      refine quiet_val (.bool true) (fun w' hC' => by go_simp) ?_
      go_simp
      refine hK _ ?_
      clear hK K
      refine BigFrame.wpQuiet_want rfl (fun K hK => ?_)
      refine quiet_val (.agg #[.int .i64 D.1.ven, .int .i64 D.1.ver, v1]) (fun w' hC' => by obtain ⟨c0, c1, c2⟩ := HF5.out _ hC'; go_simp) ?_
      go_simp
      refine hK _ ?_
      clear hK K
      refine BigFrame.wpQuiet_want rfl (fun K hK => ?_)
      refine quiet_val (.agg #[.int .i64 D.1.ven, .int .i64 D.1.ver, v2]) (fun w' hC' => by obtain ⟨c0, c1, c2⟩ := HF7.out _ hC'; go_simp) ?_
      go_simp
      refine hK _ ?_
      clear hK K
      refine BigFrame.wpQuiet_want rfl (fun K hK => ?_)
      refine quiet_enter (.bool true) 14 #[.agg #[.int .i64 D.1.ven, .int .i64 D.1.ver, v1], .agg #[.int .i64 D.1.ven, .int .i64 D.1.ver, v2]] (fun w' hC' => by go_simp) (fun w' hC' => (HS.out w' hC').mono fun e w'' ⟨he, hb⟩ => ⟨he, bt hC' hb⟩) ?_
      go_simp
      refine hK _ ?_
      clear hK K
      refine BigFrame.wpQuiet_want rfl (fun K hK => ?_)
      refine quiet_val (.bool true) (fun w' hC' => by go_simp) ?_
      go_simp
      refine hK _ ?_
      clear hK K
      refine BigFrame.wpQuiet_want rfl (fun K hK => ?_)
      refine quiet_val (.bool true) (fun w' hC' => by go_simp) ?_
      go_simp
      refine hK _ ?_
      clear hK K
      refine BigFrame.wpQuiet_want rfl (fun K hK => ?_)
      refine quiet_val (.int .i64 D.2) (fun w' hC' => by go_simp) ?_
      go_simp
      refine hK _ ?_
      clear hK K
      refine BigFrame.wpQuiet_want rfl (fun K hK => ?_)
      refine quiet_val (.int .i64 D.2) (fun w' hC' => by go_simp) ?_
      go_simp
      refine hK _ ?_
      clear hK K
      refine BigFrame.wpQuiet_want rfl (fun K hK => ?_)
      refine quiet_val (.bool true) (fun w' hC' => by go_simp) ?_
      go_simp
      refine hK _ ?_
      clear hK K
      refine BigFrame.wpQuiet_want rfl (fun K hK => ?_)
      refine quiet_val (.bool true) (fun w' hC' => by go_simp) ?_
      go_simp
      refine hK _ ?_
      clear hK K
      refine BigFrame.wpQuiet_want rfl (fun K hK => ?_)
      refine quiet_val (.bool true) (fun w' hC' => by go_simp) ?_
      go_simp
      refine hK _ ?_
      clear hK K
      refine BigFrame.wpQuiet_want rfl (fun K hK => ?_)
      refine quiet_enter (.bool true) 10 #[] (fun w' hC' => by go_simp) (fun w' hC' => (awake_any w').mono fun e w'' ⟨he, hb⟩ => ⟨he, bt hC' hb⟩) ?_
      go_simp
      refine hK _ ?_
      clear hK K
      refine BigFrame.wpQuiet_want rfl (fun K hK => ?_)
      refine quiet_val (.bool true) (fun w' hC' => by go_simp) ?_
      go_simp
      refine hK _ ?_
      clear hK K
      refine BigFrame.wpQuiet_want rfl (fun K hK => ?_)
      refine quiet_val (.bool true) (fun w' hC' => by go_simp) ?_
      go_simp
      refine hK _ ?_
      clear hK K
      refine wpQuiet_nil ?_
      intro w' hC'
      go_wp2_with fail
      go_ret
      exact ⟨rfl, bt HW4.out hC'⟩

theorem lawCodes0 (f : Fw) (v : Value) (s : ByteArray) (w : World) (hv : IntsAt 0 w.heap.size w v f.sums) (hbd : IntB f.sums) (hl : f.sums.length ≤ maxLen)
    (h0 : -9223372036854775808 ≤ f.ven) (h1 : f.ven ≤ 9223372036854775807) (h2 : -9223372036854775808 ≤ f.ver) (h3 : f.ver ≤ 9223372036854775807) (hs : s.size ≤ maxLen) :
    Calls Try.prog 4 #[fwv f v, .string s] w fun e w' => e = .returned (.bool true) ∧ Below w.heap.size w w' :=
  lawCodes f v s 0 w.heap.size w hv (Nat.le_refl _) hbd h0 h1 h2 h3 hs hl
end Go.Proofs.Ytbbfbeacgnimpaa
