/-
  The walk of the second law: encodings never begin with one another.
-/
import Derived.Test.YtapbmbbghbgkfaaWirO
open Go Go.RowKit Go.Proofs
namespace Go.Proofs.Ytapbmbbghbgkfaa
namespace Hub
theorem pre_enc (n m : Int) (h0 : -9223372036854775808 ≤ n) (h1 : n ≤ 9223372036854775807) (g0 : -9223372036854775808 ≤ m) (g1 : m ≤ 9223372036854775807) (h : (enc m).isPrefixOf (enc n) = true) : n = m := by
  obtain ⟨r, hr⟩ := List.isPrefixOf_iff_prefix.1 h
  have e1 := vi_enc n [] h0 h1
  have e2 := vi_enc m r g0 g1
  rw [List.append_nil, ← hr, e2] at e1
  simp only [Prod.mk.injEq, true_and] at e1
  rw [← unzig_zig n, ← unzig_zig m, e1.1]
theorem pre_encT (s t : List UInt8) (hs : s.length ≤ 1099511627776) (ht : t.length ≤ 1099511627776) (h : (encT t).isPrefixOf (encT s) = true) : s = t := by
  obtain ⟨r, hr⟩ := List.isPrefixOf_iff_prefix.1 h
  unfold encT at hr
  have e1 := vi_enc s.length s (by omega) (by omega)
  have e2 := vi_enc t.length (t ++ r) (by omega) (by omega)
  rw [← hr, List.append_assoc, e2] at e1
  simp only [Prod.mk.injEq, true_and] at e1
  have hl : (s.length : Int) = t.length := by rw [← unzig_zig s.length, ← unzig_zig t.length, e1.1]
  have h2 := congrArg List.length e1.2
  rw [List.length_append] at h2
  have : r = [] := List.length_eq_zero_iff.1 (by omega)
  rw [← e1.2, this, List.append_nil]
end Hub
open Hub
theorem starts_any (s t : ByteArray) (w : World) (hn : ¬ (bl t).isPrefixOf (bl s) = true) :
    Calls Try.prog 19 #[.string s, .string t] w fun e w' => e = .returned (.bool false) ∧ ∃ n, w' = w.drewN n := by
  by_cases hl : t.size ≤ s.size
  · have hli : (t.size : Int) ≤ (s.size : Int) := by omega
    have hne : ((s.extract 0 t.size).toList == t.toList) = false := by
      refine beq_of_ne fun h => hn ?_
      rw [← h, bl_take]
      exact List.isPrefixOf_iff_prefix.2 (List.take_prefix _ _)
    go_enter Try.func19, Try.ntmps19
    go_wp2_with fail
    go_ret
    exact ⟨rfl, 0, rfl⟩
  · have hli : ¬ (t.size : Int) ≤ (s.size : Int) := by omega
    go_enter Try.func19, Try.ntmps19
    go_wp2_with fail
    go_ret
    exact ⟨rfl, 0, rfl⟩

set_option maxHeartbeats 2000000 in
theorem prefix_any (n m : Int) (s t : ByteArray) (w : World) (h0 : -9223372036854775808 ≤ n) (h1 : n ≤ 9223372036854775807) (g0 : -9223372036854775808 ≤ m) (g1 : m ≤ 9223372036854775807) (hs : s.size ≤ maxLen) (ht : t.size ≤ maxLen) :
    Calls Try.prog 4 #[.int .i64 n, .int .i64 m, .string s, .string t] w fun e w' => e = .returned (.bool true) ∧ Below w.heap.size w w' := by
  have hs' : s.size ≤ 9223372036854775807 := hs
  have ht' : t.size ≤ 9223372036854775807 := ht
  clear hs ht
  have HW := Lib.hid awake_any
  by_cases hz : s.size ≤ 200
  · by_cases hl : t.size ≤ 200
    · have A1 := Lib.hid (fun w => wInt_any n w h0 h1)
      have A2 := Lib.hid (fun w => wInt_any m w g0 g1)
      have A3 := Lib.hid (fun w => wText_any s w (by omega))
      have A4 := Lib.hid (fun w => wText_any t w (by omega))
      have hes : (encT (bl s)).length ≤ 210 := by have := enc_length (bl s).length (by omega) (by rw [size_bl]; omega); rw [encT, List.length_append, size_bl] at *; omega
      have het : (encT (bl t)).length ≤ 210 := by have := enc_length (bl t).length (by omega) (by rw [size_bl]; omega); rw [encT, List.length_append, size_bl] at *; omega
      have B1 := Lib.hid (fun w (hnm : ¬ n = m) => starts_any (mk (enc n)) (mk (enc m)) w (fun h => hnm (pre_enc n m h0 h1 g0 g1 h)))
      have B2 := Lib.hid (fun w (hst : ¬ bl s = bl t) => starts_any (mk (encT (bl s))) (mk (encT (bl t))) w (fun h => hst (pre_encT (bl s) (bl t) (by rw [size_bl]; omega) (by rw [size_bl]; omega) h)))
      generalize mk (enc n) = K1 at *
      generalize mk (enc m) = K2 at *
      generalize mk (encT (bl s)) = K3 at *
      generalize mk (encT (bl t)) = K4 at *
      clear h0 h1 g0 g1 hes het
      by_cases hnm : n = m
      · have hnmb : (n == m) = true := by simpa using hnm
        clear hnm
        by_cases hst : s = t
        · have hstb := beq_of_eq hst
          clear hst
          go_enter Try.func4, Try.ntmps4
          go_wp2_with fail
          refine (HW.out _).mono ?_
          rintro e w8 ⟨rfl, hb8⟩
          go_wp2_with fail
          go_ret
          exact ⟨rfl, hb8⟩
        · have hstb := beq_of_ne hst
          have HS := Lib.hid (show ¬ bl s = bl t from fun h => hst (bl_inj h))
          clear hst
          go_enter Try.func4, Try.ntmps4
          go_wp2_with fail
          refine (A3.out _).mono ?_
          rintro e w3 ⟨rfl, hb3⟩
          go_wp2_with fail
          refine (A4.out _).mono ?_
          rintro e w4 ⟨rfl, hb4⟩
          go_wp2_with fail
          refine (B2.out _ HS.out).mono ?_
          rintro e w5 ⟨rfl, k5, rfl⟩
          go_wp2_with fail
          refine (HW.out _).mono ?_
          rintro e w8 ⟨rfl, hb8⟩
          go_wp2_with fail
          go_ret
          exact ⟨rfl, bt (below_drewN (bt hb3 hb4) _) hb8⟩
      · have hnmb : (n == m) = false := by simpa using hnm
        have HNM := Lib.hid hnm
        clear hnm
        by_cases hst : s = t
        · have hstb := beq_of_eq hst
          clear hst
          go_enter Try.func4, Try.ntmps4
          go_wp2_with fail
          refine (A1.out _).mono ?_
          rintro e w1 ⟨rfl, hb1⟩
          go_wp2_with fail
          refine (A2.out _).mono ?_
          rintro e w2 ⟨rfl, hb2⟩
          go_wp2_with fail
          refine (B1.out _ HNM.out).mono ?_
          rintro e w5 ⟨rfl, k5, rfl⟩
          go_wp2_with fail
          refine (HW.out _).mono ?_
          rintro e w8 ⟨rfl, hb8⟩
          go_wp2_with fail
          go_ret
          exact ⟨rfl, bt (below_drewN (bt hb1 hb2) _) hb8⟩
        · have hstb := beq_of_ne hst
          have HS := Lib.hid (show ¬ bl s = bl t from fun h => hst (bl_inj h))
          clear hst
          go_enter Try.func4, Try.ntmps4
          go_wp2_with fail
          refine (A1.out _).mono ?_
          rintro e w1 ⟨rfl, hb1⟩
          go_wp2_with fail
          refine (A2.out _).mono ?_
          rintro e w2 ⟨rfl, hb2⟩
          go_wp2_with fail
          refine (B1.out _ HNM.out).mono ?_
          rintro e w5 ⟨rfl, k5, rfl⟩
          have hb12 := below_drewN (bt hb1 hb2) k5
          go_wp2_with fail
          refine (A3.out _).mono ?_
          rintro e w3 ⟨rfl, hb3⟩
          go_wp2_with fail
          refine (A4.out _).mono ?_
          rintro e w4 ⟨rfl, hb4⟩
          go_wp2_with fail
          refine (B2.out _ HS.out).mono ?_
          rintro e w5 ⟨rfl, k5, rfl⟩
          go_wp2_with fail
          refine (HW.out _).mono ?_
          rintro e w8 ⟨rfl, hb8⟩
          go_wp2_with fail
          go_ret
          exact ⟨rfl, bt (below_drewN (bt (bt hb12 hb3) hb4) _) hb8⟩
    · have hli : (200 : Int) < (t.size : Int) := by omega
      go_enter Try.func4, Try.ntmps4
      go_wp2_with fail
      refine (HW.out _).mono ?_
      rintro e w8 ⟨rfl, hb8⟩
      go_wp2_with fail
      go_ret
      exact ⟨rfl, hb8⟩
  · have hzi : (200 : Int) < (s.size : Int) := by omega
    go_enter Try.func4, Try.ntmps4
    go_wp2_with fail
    refine (HW.out _).mono ?_
    rintro e w8 ⟨rfl, hb8⟩
    go_wp2_with fail
    go_ret
    exact ⟨rfl, hb8⟩
end Go.Proofs.Ytapbmbbghbgkfaa
