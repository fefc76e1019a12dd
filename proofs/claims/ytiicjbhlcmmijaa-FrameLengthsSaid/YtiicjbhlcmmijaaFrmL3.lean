/-
  The walk of the third law.
-/
import Derived.Test.YtiicjbhlcmmijaaFrmW
open Go Go.RowKit Go.Proofs
namespace Go.Proofs.Ytiicjbhlcmmijaa
open Hub

theorem withSum_size (s : ByteArray) : (mk (withSum (bl s))).size = s.size + 2 := by rw [size_mk, withSum, List.length_append, size_bl]; rfl

set_option maxHeartbeats 4000000 in
theorem decodes_any (s : ByteArray) (w : World) (_hs : s.size ≤ maxLen) : Calls Try.prog 5 #[.string s] w fun e w' => e = .returned (.bool true) ∧ Below w.heap.size w w' := by
  by_cases hl : 300 < s.size
  · have hl2 : decide ((300 : Int) < (s.size : Int)) = true := by simp; omega
    go_enter Try.func5, Try.ntmps5
    go_wp2_with fail
    refine (awake_any _).mono ?_
    rintro e w1 ⟨rfl, hb⟩
    go_wp2_with fail
    go_ret
    exact ⟨rfl, hb⟩
  · have hl2 : decide ((300 : Int) < (s.size : Int)) = false := by simp; omega
    have H1 := Lib.hid (fun w => decode_any s w (by omega))
    have H2 := Lib.hid (fun w => refDecode_any s w (by omega))
    have H3 := Lib.hid (fun w => refSum_any s w (by omega))
    have hts := withSum_size s
    generalize mk (withSum (bl s)) = t at *
    have H4 := Lib.hid (fun w => decode_any t w (by omega))
    have H5 := Lib.hid (fun w => refDecode_any t w (by omega))
    simp only [Fr.val] at H1 H2 H4 H5
    generalize (decD (bl s)).1 = g at *
    generalize (decD (bl s)).2 = c at *
    generalize (decD (bl t)).1 = g2 at *
    generalize (decD (bl t)).2 = c2 at *
    go_enter Try.func5, Try.ntmps5
    go_wp2_with fail
    refine (H1.out _).mono ?_
    rintro e w1 ⟨rfl, hb1⟩
    go_wp2_with fail
    refine (H2.out _).mono ?_
    rintro e w2 ⟨rfl, hb2⟩
    obtain ⟨hc2, hf2⟩ := bcell hb2
    have hy2 : w1.heap.size < w2.heap.size := by have := hb2.size; (try simp at this); omega
    go_wp2_with fail
    refine (H3.out _).mono ?_
    rintro e w3 ⟨rfl, hb3⟩
    obtain ⟨hc3, hf3⟩ := bcell hb3
    have hx3 : w2.heap.size < w3.heap.size := by have := hb3.size; (try simp at this); omega
    have hy3 : w1.heap.size < w3.heap.size := by omega
    have hy2' : w1.heap.size < w2.heap.size + 1 := by omega
    go_wp2_with fail
    refine (H4.out _).mono ?_
    rintro e w4 ⟨rfl, hb4⟩
    obtain ⟨hc4, hf4⟩ := bcell hb4
    have hx4 : w2.heap.size < w4.heap.size := by have := hb4.size; (try simp at this); omega
    have hy4 : w1.heap.size < w4.heap.size := by omega
    go_wp2_with fail
    refine (H5.out _).mono ?_
    rintro e w5 ⟨rfl, hb5⟩
    obtain ⟨hc5, hf5⟩ := bcell hb5
    have hx5 : w2.heap.size < w5.heap.size := by have := hb5.size; (try simp at this); omega
    have hy5 : w1.heap.size < w5.heap.size := by omega
    go_wp2_with fail
    refine (awake_any _).mono ?_
    rintro e w6 ⟨rfl, hb6⟩
    go_wp2_with fail
    go_ret
    have q1 := hb1.size
    have q2 : w.heap.size ≤ w2.heap.size := by omega
    have q3 : w.heap.size ≤ w3.heap.size := by omega
    refine ⟨rfl, ?_⟩
    refine bt ?_ hb6
    iterate 9 (refine Below.setCell ?_ q2 _)
    refine bt ?_ hb5
    iterate 9 (refine Below.setCell ?_ q1 _)
    refine bt (bt (Below.alloc ?_ q2 _) hb3) hb4
    refine bt (Below.alloc ?_ q1 _) hb2
    exact hb1
end Go.Proofs.Ytiicjbhlcmmijaa
