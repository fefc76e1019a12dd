/-
  The walk of the law: descriptions are written and read back.
-/
import Derived.Test.YtbbfbeacgnimpaaFirK
open Go Go.RowKit Go.Proofs
namespace Go.Proofs.Ytbbfbeacgnimpaa
open Hub

set_option maxHeartbeats 1000000 in
theorem lawRead (f : Fw) (v : Value) (s : ByteArray) (lo N : Nat) (w : World) (hv : IntsAt lo N w v f.sums) (hN : N ≤ w.heap.size) (hbd : IntB f.sums)
    (h0 : -9223372036854775808 ≤ f.ven) (h1 : f.ven ≤ 9223372036854775807) (h2 : -9223372036854775808 ≤ f.ver) (h3 : f.ver ≤ 9223372036854775807) (hs : s.size ≤ maxLen) (hl : f.sums.length ≤ maxLen) :
    Calls Try.prog 3 #[fwv f v, .string s] w fun e w' => e = .returned (.bool true) ∧ Below w.heap.size w w' := by
  have HV := Lib.hid (fun w' (k : Below w.heap.size w w') => hv.below k hN)
  obtain ⟨a, cap, rfl, -⟩ := hv
  have hW := below_box w (.cells #[.int .i64 f.ven, .int .i64 f.ver, .slice a f.sums.length cap] 24)
  by_cases g1 : 80 < f.sums.length
  · have g1i : (80 : Int) < (f.sums.length : Int) := by omega
    unfold fwv
    clear HV hl hbd
    generalize f.sums.length = L at *
    go_enter Try.func3, Try.ntmps3
    go_wp2_with (refine (awake_any _).mono ?_; rintro e w1 ⟨rfl, hb⟩)
    go_ret
    exact ⟨rfl, bt hW hb⟩
  · have g1i : ¬ (80 : Int) < (f.sums.length : Int) := by omega
    by_cases g2 : 700 < s.size
    · have g2i : (700 : Int) < (s.size : Int) := by omega
      unfold fwv
      clear HV hl hbd hs
      generalize f.sums.length = L at *
      go_enter Try.func3, Try.ntmps3
      go_wp2_with (refine (awake_any _).mono ?_; rintro e w1 ⟨rfl, hb⟩)
      go_ret
      exact ⟨rfl, bt hW hb⟩
    · have g2i : ¬ (700 : Int) < (s.size : Int) := by omega
      have hl1 : f.sums.length ≤ 1099511627776 := by omega
      have HK := Lib.hid (fun w' (k : Below w.heap.size w w') => chk_any f _ lo N w' (HV.out w' k) (Nat.le_trans hN k.size) hl1)
      have HE := Lib.hid (fun w' (k : Below w.heap.size w w') => encFw_any f _ lo N w' (HV.out w' k) (Nat.le_trans hN k.size) (by omega) hbd h0 h1 h2 h3)
      have HD := Lib.hid (fun w' => decFw_any s w' (by omega))
      -- the second half: what is decoded
      have hdb := dec_ints (bl s)
      have hed := enc_dec (bl s)
      have hdn : (decFw (bl s)).2 = 0 → -9223372036854775808 ≤ (decFw (bl s)).1.ven ∧ (decFw (bl s)).1.ven ≤ 9223372036854775807 ∧ -9223372036854775808 ≤ (decFw (bl s)).1.ver ∧ (decFw (bl s)).1.ver ≤ 9223372036854775807 := fun h => by
        have := namedF_bounds (chkF_zero (hed h).2).1
        omega
      have hel : (mk (encFw f)).size ≤ 1000 := by
        show (encFw f).length ≤ 1000
        have := enc_length f.ven h0 h1
        have := enc_length f.ver h2 h3
        have := enc_length (f.sums.length : Int) (by omega) (by omega)
        have := encs_length f.sums hbd
        rw [encFw, encL, List.length_append, List.length_append, List.length_append]; omega
      have hbl := mk_bl s
      have HDe := Lib.hid (fun w' => decFw_any (mk (encFw f)) w' (by omega))
      generalize decFw (bl s) = D at *
      by_cases hz : chkF f = 0
      · have hzb : (chkF f == 0) = true := by simpa using hz
        rw [bl_mk, dec_enc f hz] at HDe
        unfold fwv at HK HE HDe ⊢
        have hS3 := fun v3 lo' N' w' h k h' h'' => sameF_any f f (.slice a f.sums.length cap) v3 lo N lo' N' w' h k h' h'' hl1
        rw [decide_eq_true rfl, decide_eq_true rfl, decide_eq_true rfl] at hS3
        unfold fwv at hS3
        have HS3 := Lib.hid hS3
        clear hS3
        generalize mk (encFw f) = E at *
        go_enter Try.func3, Try.ntmps3
        go_wp2_with fail
        refine (HK.out _ hW).mono ?_
        rintro e w1 ⟨rfl, hb1⟩
        have hFw : Fb w.heap.size (.int .i64 f.ven) (.int .i64 f.ver) (.slice a f.sums.length cap) w1 := (box3 hb1).2.2.2.1
        have hb2 := (box3 hb1).2.2.2.2.1
        have c0 := hFw.c0
        have c1 := hFw.c1
        have c2 := hFw.c2
        clear hb1
        go_wp2_with fail
        refine (HE.out _ hb2).mono ?_
        rintro e w2 ⟨rfl, hb3⟩
        have hFw2 := hFw.below hb3 hFw.lt
        have hb4 := bt hb2 hb3
        clear c0 c1 c2
        go_wp2_with fail
        refine (HDe.out _).mono ?_
        rintro e w3 ⟨v3, rfl, hv3, hb5⟩
        have hFw3 := hFw2.below hb5 hFw2.lt
        have hb6 := bt hb4 hb5
        have c0 := hFw3.c0
        have c1 := hFw3.c1
        have c2 := hFw3.c2
        have hl3 := hFw3.lt
        obtain ⟨a3, cap3, rfl, _⟩ := id hv3
        have hw4 := below_box w3 (.cells #[.int .i64 f.ven, .int .i64 f.ver, .slice a3 f.sums.length cap3] 24)
        have hb7 : Below w.heap.size w (w3.alloc (.cells #[.int .i64 f.ven, .int .i64 f.ver, .slice a3 f.sums.length cap3] 24)) := bt hb6 hw4
        go_wp2_with fail
        refine (HS3.out _ _ _ _ (HV.out _ hb7) (hv3.below hw4 (Nat.le_refl _)) (Nat.le_trans hN hb7.size) hw4.size).mono ?_
        rintro e w5 ⟨rfl, hb8⟩
        have hb9 := bt hb7 hb8
        clear hFw hb2 hb3 hFw2 hb4 hb5 hFw3 hb6 c0 c1 c2 hl3 hw4 hb7 hb8 hv3 HK HE HDe HS3
        go_wp2_with fail
        refine (HD.out _).mono ?_
        rintro e y1 ⟨v7, rfl, hv7, hy1⟩
        have hxy := bt hb9 hy1
        obtain ⟨a7, c7, rfl, _⟩ := id hv7
        by_cases gd : D.2 = 0
        · have gdb : (D.2 != 0) = false := by simpa using gd
          obtain ⟨e1, e2⟩ := hed gd
          have HE7 := Lib.hid (fun w' k => encFw_any D.1 _ w5.heap.size y1.heap.size w' (hv7.below k (Nat.le_refl _)) (Below.size k) (by omega) hdb.1 (hdn gd).1 (hdn gd).2.1 (hdn gd).2.2.1 (hdn gd).2.2.2)
          have HK7 := Lib.hid (fun w' k => chk_any D.1 _ w5.heap.size y1.heap.size w' (hv7.below k (Nat.le_refl _)) (Below.size k) (by omega))
          rw [e2] at HK7
          have hse : mk (encFw D.1) = s := by rw [e1, mk_bl]
          rw [hse] at HE7
          have hss : (s.toList == s.toList) = true := beq_self_eq_true _
          have hy2 := below_box y1 (.cells #[.int .i64 D.1.ven, .int .i64 D.1.ver, .slice a7 D.1.sums.length c7] 24)
          have hFy : Fb y1.heap.size (.int .i64 D.1.ven) (.int .i64 D.1.ver) (.slice a7 D.1.sums.length c7) (y1.alloc (.cells #[.int .i64 D.1.ven, .int .i64 D.1.ver, .slice a7 D.1.sums.length c7] 24)) := heap_alloc_new y1 _
          clear e1 e2 hse gd hed hdn
          unfold fwv at *
          go_wp2_with fail
          refine (HE7.out _ hy2).mono ?_
          rintro e y3 ⟨rfl, hy3⟩
          have hFy3 := hFy.below hy3 hFy.lt
          have hy13 := bt hy2 hy3
          have p0 := hFy3.c0
          have p1 := hFy3.c1
          have p2 := hFy3.c2
          go_wp2_with fail
          refine (HK7.out _ hy13).mono ?_
          rintro e y4 ⟨rfl, hy4⟩
          go_wp2_with fail
          refine (awake_any _).mono ?_
          rintro e y5 ⟨rfl, hy5⟩
          go_wp2_with fail
          go_ret
          exact ⟨rfl, bt hxy (bt hy13 (bt hy4 hy5))⟩
        · have gdb : (D.2 != 0) = true := by simpa using gd
          have hy2 := below_box y1 (.cells #[.int .i64 D.1.ven, .int .i64 D.1.ver, .slice a7 D.1.sums.length c7] 24)
          clear gd hed hdn
          unfold fwv at *
          go_wp2_with fail
          refine (awake_any _).mono ?_
          rintro e y5 ⟨rfl, hy5⟩
          go_wp2_with fail
          go_ret
          exact ⟨rfl, bt hxy (bt hy2 hy5)⟩
      · have hzb : (chkF f == 0) = false := by simpa using hz
        unfold fwv at HK ⊢
        clear HE HDe
        go_enter Try.func3, Try.ntmps3
        go_wp2_with fail
        refine (HK.out _ hW).mono ?_
        rintro e w1 ⟨rfl, hb1⟩
        have hb2 := (box3 hb1).2.2.2.2.1
        clear hb1 HK
        go_wp2_with fail
        refine (HD.out _).mono ?_
        rintro e y1 ⟨v7, rfl, hv7, hy1⟩
        have hxy := bt hb2 hy1
        obtain ⟨a7, c7, rfl, _⟩ := id hv7
        by_cases gd : D.2 = 0
        · have gdb : (D.2 != 0) = false := by simpa using gd
          obtain ⟨e1, e2⟩ := hed gd
          have HE7 := Lib.hid (fun w' k => encFw_any D.1 _ w1.heap.size y1.heap.size w' (hv7.below k (Nat.le_refl _)) (Below.size k) (by omega) hdb.1 (hdn gd).1 (hdn gd).2.1 (hdn gd).2.2.1 (hdn gd).2.2.2)
          have HK7 := Lib.hid (fun w' k => chk_any D.1 _ w1.heap.size y1.heap.size w' (hv7.below k (Nat.le_refl _)) (Below.size k) (by omega))
          rw [e2] at HK7
          have hse : mk (encFw D.1) = s := by rw [e1, mk_bl]
          rw [hse] at HE7
          have hss : (s.toList == s.toList) = true := beq_self_eq_true _
          have hy2 := below_box y1 (.cells #[.int .i64 D.1.ven, .int .i64 D.1.ver, .slice a7 D.1.sums.length c7] 24)
          have hFy : Fb y1.heap.size (.int .i64 D.1.ven) (.int .i64 D.1.ver) (.slice a7 D.1.sums.length c7) (y1.alloc (.cells #[.int .i64 D.1.ven, .int .i64 D.1.ver, .slice a7 D.1.sums.length c7] 24)) := heap_alloc_new y1 _
          clear e1 e2 hse gd hed hdn
          unfold fwv at *
          go_wp2_with fail
          refine (HE7.out _ hy2).mono ?_
          rintro e y3 ⟨rfl, hy3⟩
          have hFy3 := hFy.below hy3 hFy.lt
          have hy13 := bt hy2 hy3
          have p0 := hFy3.c0
          have p1 := hFy3.c1
          have p2 := hFy3.c2
          go_wp2_with fail
          refine (HK7.out _ hy13).mono ?_
          rintro e y4 ⟨rfl, hy4⟩
          go_wp2_with fail
          refine (awake_any _).mono ?_
          rintro e y5 ⟨rfl, hy5⟩
          go_wp2_with fail
          go_ret
          exact ⟨rfl, bt hxy (bt hy13 (bt hy4 hy5))⟩
        · have gdb : (D.2 != 0) = true := by simpa using gd
          have hy2 := below_box y1 (.cells #[.int .i64 D.1.ven, .int .i64 D.1.ver, .slice a7 D.1.sums.length c7] 24)
          clear gd hed hdn
          unfold fwv at *
          go_wp2_with fail
          refine (awake_any _).mono ?_
          rintro e y5 ⟨rfl, hy5⟩
          go_wp2_with fail
          go_ret
          exact ⟨rfl, bt hxy (bt hy2 hy5)⟩

theorem lawRead0 (f : Fw) (v : Value) (s : ByteArray) (w : World) (hv : IntsAt 0 w.heap.size w v f.sums) (hbd : IntB f.sums) (hl : f.sums.length ≤ maxLen)
    (h0 : -9223372036854775808 ≤ f.ven) (h1 : f.ven ≤ 9223372036854775807) (h2 : -9223372036854775808 ≤ f.ver) (h3 : f.ver ≤ 9223372036854775807) (hs : s.size ≤ maxLen) :
    Calls Try.prog 3 #[fwv f v, .string s] w fun e w' => e = .returned (.bool true) ∧ Below w.heap.size w w' :=
  lawRead f v s 0 w.heap.size w hv (Nat.le_refl _) hbd h0 h1 h2 h3 hs hl
end Go.Proofs.Ytbbfbeacgnimpaa
