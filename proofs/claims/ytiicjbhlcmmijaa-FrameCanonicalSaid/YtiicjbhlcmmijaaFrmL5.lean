/-
  The walk of the fifth law.
-/
import Derived.Test.YtiicjbhlcmmijaaFrmL3
import Derived.Test.YtiicjbhlcmmijaaFrmQ
open Go Go.RowKit Go.Proofs
namespace Go.Proofs.Ytiicjbhlcmmijaa
open Hub

theorem enc_back (t : ByteArray) (h : (decD (bl t)).2 = 0) : ∃ g : Fr, decD (bl t) = (g, 0) ∧ check g = 0 ∧ encD g = (bl t, 0) := by
  obtain ⟨h1, h2, h3⟩ := enc_dec _ h
  refine ⟨fieldsD (bl t), ?_, h2, ?_⟩
  · rw [← h1, ← h]
  · rw [encD, if_pos h2, h3]
theorem dec_none (t : ByteArray) (h : (decD (bl t)).2 ≠ 0) : decD (bl t) = (zeroFr, (decD (bl t)).2) := by
  rw [← dec_fail _ h]

set_option maxHeartbeats 4000000 in
theorem canonical_any (s : ByteArray) (add : Bool) (w : World) (_hs : s.size ≤ maxLen) : Calls Try.prog 7 #[.string s, .bool add] w fun e w' => e = .returned (.bool true) ∧ Below w.heap.size w w' := by
  by_cases hl : 300 < s.size
  · have hl2 : decide ((300 : Int) < (s.size : Int)) = true := by simp; omega
    go_enter Try.func7, Try.ntmps7
    go_wp2_with fail
    refine (awake_any _).mono ?_
    rintro e w1 ⟨rfl, hb⟩
    go_wp2_with fail
    go_ret
    exact ⟨rfl, hb⟩
  · have hl2 : decide ((300 : Int) < (s.size : Int)) = false := by simp; omega
    have HA := Lib.hid awake_any
    cases add with
    | true =>
      have H3 := Lib.hid (fun w => refSum_any s w (by omega))
      have hts := withSum_size s
      generalize mk (withSum (bl s)) = t at *
      have H1 := Lib.hid (fun w => decode_any t w (by omega))
      by_cases hz : (decD (bl t)).2 = 0
      · obtain ⟨g, hg1, hg2, hg3⟩ := enc_back t hz
        have H2 := Lib.hid (fun w => encode_any g w)
        have H4 := Lib.hid (fun w => check_any g w)
        rw [hg1] at H1
        rw [hg2] at H4
        rw [hg3] at H2
        simp only [mk_bl] at H2
        simp only [Fr.val] at H1
        clear hg1 hg2 hg3 hz
        go_enter Try.func7, Try.ntmps7
        go_wp2_with fail
        refine (H3.out _).mono ?_
        rintro e w0 ⟨rfl, hb0⟩
        go_wp2_with fail
        refine (H1.out _).mono ?_
        rintro e w1 ⟨rfl, hb1⟩
        go_wp2_with fail
        refine (H2.out _).mono ?_
        rintro e w2 ⟨rfl, hb2⟩
        obtain ⟨hc2, hf2⟩ := bcell hb2
        have hz2 : w1.heap.size < w2.heap.size := by have := hb2.size; (try simp at this); omega
        go_wp2_with fail
        refine (H4.out _).mono ?_
        rintro e w3 ⟨rfl, hb3⟩
        go_wp2_with fail
        refine (HA.out _).mono ?_
        rintro e w4 ⟨rfl, hb4⟩
        go_wp2_with fail
        go_ret
        have q1 : w.heap.size ≤ w1.heap.size := (bt hb0 hb1).size
        exact ⟨rfl, bt (bt (bt (Below.alloc (bt hb0 hb1) q1 _) hb2) hb3) hb4⟩
      · have hg := dec_none t hz
        rw [hg] at H1
        have hz1 : ((decD (bl t)).2 != 0) = true := by simpa using hz
        simp only [Fr.val, zeroFr] at H1
        clear hg hz
        generalize (decD (bl t)).2 = c at *
        go_enter Try.func7, Try.ntmps7
        go_wp2_with fail
        refine (H3.out _).mono ?_
        rintro e w0 ⟨rfl, hb0⟩
        go_wp2_with fail
        refine (H1.out _).mono ?_
        rintro e w1 ⟨rfl, hb1⟩
        go_wp2_with fail
        refine (HA.out _).mono ?_
        rintro e w4 ⟨rfl, hb4⟩
        go_wp2_with fail
        go_ret
        have q1 : w.heap.size ≤ w1.heap.size := (bt hb0 hb1).size
        exact ⟨rfl, bt (Below.alloc (bt hb0 hb1) q1 _) hb4⟩
    | false =>
      obtain ⟨t, rfl⟩ : ∃ t, t = s := ⟨s, rfl⟩
      have H1 := Lib.hid (fun w => decode_any t w (by omega))
      by_cases hz : (decD (bl t)).2 = 0
      · obtain ⟨g, hg1, hg2, hg3⟩ := enc_back t hz
        have H2 := Lib.hid (fun w => encode_any g w)
        have H4 := Lib.hid (fun w => check_any g w)
        rw [hg1] at H1
        rw [hg2] at H4
        rw [hg3] at H2
        simp only [mk_bl] at H2
        simp only [Fr.val] at H1
        clear hg1 hg2 hg3 hz
        go_enter Try.func7, Try.ntmps7
        go_wp2_with fail
        refine (H1.out _).mono ?_
        rintro e w1 ⟨rfl, hb1⟩
        go_wp2_with fail
        refine (H2.out _).mono ?_
        rintro e w2 ⟨rfl, hb2⟩
        obtain ⟨hc2, hf2⟩ := bcell hb2
        have hz2 : w1.heap.size < w2.heap.size := by have := hb2.size; (try simp at this); omega
        go_wp2_with fail
        refine (H4.out _).mono ?_
        rintro e w3 ⟨rfl, hb3⟩
        go_wp2_with fail
        refine (HA.out _).mono ?_
        rintro e w4 ⟨rfl, hb4⟩
        go_wp2_with fail
        go_ret
        have q1 : w.heap.size ≤ w1.heap.size := (hb1).size
        exact ⟨rfl, bt (bt (bt (Below.alloc (hb1) q1 _) hb2) hb3) hb4⟩
      · have hg := dec_none t hz
        rw [hg] at H1
        have hz1 : ((decD (bl t)).2 != 0) = true := by simpa using hz
        simp only [Fr.val, zeroFr] at H1
        clear hg hz
        generalize (decD (bl t)).2 = c at *
        go_enter Try.func7, Try.ntmps7
        go_wp2_with fail
        refine (H1.out _).mono ?_
        rintro e w1 ⟨rfl, hb1⟩
        go_wp2_with fail
        refine (HA.out _).mono ?_
        rintro e w4 ⟨rfl, hb4⟩
        go_wp2_with fail
        go_ret
        have q1 : w.heap.size ≤ w1.heap.size := (hb1).size
        exact ⟨rfl, bt (Below.alloc (hb1) q1 _) hb4⟩
end Go.Proofs.Ytiicjbhlcmmijaa
