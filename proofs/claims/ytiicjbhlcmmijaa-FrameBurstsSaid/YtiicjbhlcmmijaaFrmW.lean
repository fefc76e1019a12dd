/-
  The walk of the chapter's examples.
-/
import Derived.Test.YtiicjbhlcmmijaaFrmE
open Go Go.RowKit Go.Proofs
namespace Go.Proofs.Ytiicjbhlcmmijaa
open Hub

def f0 : Fr := { kind := 1, frm := 1, to := 255, src := 1, tgt := 255, seq := 258, hops := 0, urg := false, dat := { data := #[] } }
def b0 : ByteArray := mk (encD f0).1
theorem e0 : encD f0 = (bl b0, 0) := by decide +kernel
theorem b0_size : b0.size = 11 := by decide +kernel
theorem b0_head : b0.extract 0 9 = { data := #[1, 1, 255, 1, 255, 1, 2, 0, 0] } := by decide +kernel
theorem d0 : decD (bl b0) = (f0, 0) := by kernel_rfl
theorem d1 : decD (bl (b0.extract 0 10)) = (zeroFr, 5) := by kernel_rfl
theorem c0 : check f0 = 0 := by decide
theorem c1 : check { kind := 2, frm := 3, to := 3, src := 0, tgt := 0, seq := 0, hops := 0, urg := false, dat := { data := #[] } } = 4 := by decide
theorem c2 : check { kind := 2, frm := 0, to := 3, src := 0, tgt := 0, seq := 0, hops := 16, urg := false, dat := { data := #[] } } = 2 := by decide

set_option maxHeartbeats 2000000 in
theorem awake_any (w : World) : Calls Try.prog 10 #[] w fun e w' => e = .returned (.bool true) ∧ Below w.heap.size w w' := by
  have HE := Lib.hid (fun w => encode_any f0 w)
  rw [e0] at HE
  simp only [mk_bl] at HE
  have HD := Lib.hid (fun w => decode_any b0 w (by decide))
  rw [d0] at HD
  simp only [Fr.val, f0] at HD
  have HD1 := Lib.hid (fun w => decode_any (b0.extract 0 10) w (by simp [b0_size]))
  rw [d1] at HD1
  simp only [Fr.val, zeroFr] at HD1
  have HS := Lib.hid (fun w => size_any f0 w)
  rw [if_pos c0] at HS
  have HC1 := Lib.hid (fun w => check_any { kind := 2, frm := 3, to := 3, src := 0, tgt := 0, seq := 0, hops := 0, urg := false, dat := { data := #[] } } w)
  rw [c1] at HC1
  have HC2 := Lib.hid (fun w => check_any { kind := 2, frm := 0, to := 3, src := 0, tgt := 0, seq := 0, hops := 16, urg := false, dat := { data := #[] } } w)
  rw [c2] at HC2
  have hsz := b0_size
  have hhd := b0_head
  generalize b0 = s at *
  go_enter Try.func10, Try.ntmps10
  go_wp2_with fail
  refine (HE.out _).mono ?_
  rintro e w1 ⟨rfl, hb1⟩
  obtain ⟨hc1, hf1⟩ := bcell hb1
  have hz1 : w.heap.size < w1.heap.size := by have := hb1.size; (try simp at this); omega
  go_wp2_with fail
  refine (HS.out _).mono ?_
  rintro e w2 ⟨rfl, hb2⟩
  obtain ⟨hc2, hf2⟩ := bcell hb2
  have hz2 : w.heap.size < w2.heap.size := by have := hb2.size; (try simp at this); omega
  go_wp2_with fail
  refine (HD.out _).mono ?_
  rintro e w3 ⟨rfl, hb3⟩
  obtain ⟨hc3, hf3⟩ := bcell hb3
  have hz3 : w.heap.size < w3.heap.size := by have := hb3.size; (try simp at this); omega
  go_wp2_with fail
  refine (HD1.out _).mono ?_
  rintro e w4 ⟨rfl, hb4⟩
  obtain ⟨hc4, hf4⟩ := bcell hb4
  have hy4 : w3.heap.size < w4.heap.size := by have := hb4.size; (try simp at this); omega
  have hx4 : w.heap.size < w3.heap.size + 1 := by omega
  have hz4 : w.heap.size < w4.heap.size := by have := hb4.size; (try simp at this); omega
  go_wp2_with fail
  refine (HC1.out _).mono ?_
  rintro e w5 ⟨rfl, hb5⟩
  obtain ⟨hc5, hf5⟩ := bcell hb5
  have hz5 : w.heap.size < w5.heap.size := by have := hb5.size; (try simp at this); omega
  go_wp2_with fail
  refine (HC2.out _).mono ?_
  rintro e w6 ⟨rfl, hb6⟩
  obtain ⟨hc6, hf6⟩ := bcell hb6
  have hz6 : w.heap.size < w6.heap.size := by have := hb6.size; (try simp at this); omega
  go_wp2_with fail
  go_ret
  exact ⟨rfl, bt (bt ((bt ((bt (bt (bt ((Below.refl _ _).alloc (Nat.le_refl _) _) hb1) hb2) hb3).alloc (by omega) _) hb4).alloc (by omega) _) hb5) hb6⟩
end Go.Proofs.Ytiicjbhlcmmijaa
