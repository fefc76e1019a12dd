/-
  The walk of the fourth law.
-/
import Derived.Test.YtiicjbhlcmmijaaFrmW
import Derived.Test.YtiicjbhlcmmijaaFrmO
import Derived.Test.YtiicjbhlcmmijaaFrmQ
open Go Go.RowKit Go.Proofs
namespace Go.Proofs.Ytiicjbhlcmmijaa
open Hub

theorem enc_ok (f : Fr) (h : check f = 0) : encD f = (withSum (body f), 0) := by rw [encD, if_pos h]
theorem enc_bad (f : Fr) (h : ¬ check f = 0) : encD f = ([], check f) := by rw [encD, if_neg h]
theorem enc_size (f : Fr) : (mk (withSum (body f))).size = 11 + f.dat.size := by rw [size_mk, withSum_length, body_length]; omega

set_option maxHeartbeats 4000000 in
theorem returns_any (f : Fr) (w : World) : Calls Try.prog 6 #[.agg #[.int .i64 f.kind, .int .i64 f.frm, .int .i64 f.to, .int .i64 f.src, .int .i64 f.tgt, .int .i64 f.seq, .int .i64 f.hops, .bool f.urg, .string f.dat]] w fun e w' => e = .returned (.bool true) ∧ Below w.heap.size w w' := by
  have H1 := Lib.hid (fun w => encode_any f w)
  have H2 := Lib.hid (fun w => check_any f w)
  have H3 := Lib.hid (fun w => size_any f w)
  by_cases hz : check f = 0
  · have h109 := (check_zero hz).2.2.2.1
    have hsz := enc_size f
    have hde := dec_enc f hz
    rw [enc_ok f hz] at H1
    rw [hz] at H2
    rw [if_pos hz] at H3
    have hbl : withSum (body f) = bl (mk (withSum (body f))) := (bl_mk _).symm
    rw [hbl] at hde
    simp only at H1
    generalize mk (withSum (body f)) = s at *
    have H4 := Lib.hid (fun w => decode_any s w (by omega))
    rw [hde] at H4
    simp only [Fr.val] at H4
    clear hde hbl
    go_enter Try.func6, Try.ntmps6
    go_wp2_with fail
    refine (H1.out _).mono ?_
    rintro e w1 ⟨rfl, hb1⟩
    obtain ⟨hc1, hf1⟩ := bcell hb1
    have hz1 : w.heap.size < w1.heap.size := by have := hb1.size; (try simp at this); omega
    go_wp2_with fail
    refine (H4.out _).mono ?_
    rintro e w2 ⟨rfl, hb2⟩
    obtain ⟨hc2, hf2⟩ := bcell hb2
    have hz2 : w.heap.size < w2.heap.size := by have := hb2.size; (try simp at this); omega
    go_wp2_with fail
    refine (H2.out _).mono ?_
    rintro e w3 ⟨rfl, hb3⟩
    obtain ⟨hc3, hf3⟩ := bcell hb3
    have hz3 : w.heap.size < w3.heap.size := by have := hb3.size; (try simp at this); omega
    have hy3 : w.heap.size < w2.heap.size + 1 := by omega
    have hx3 : w2.heap.size < w3.heap.size := by have := hb3.size; (try simp at this); omega
    go_wp2_with fail
    refine (H3.out _).mono ?_
    rintro e w4 ⟨rfl, hb4⟩
    go_wp2_with fail
    refine (awake_any _).mono ?_
    rintro e w5 ⟨rfl, hb5⟩
    go_wp2_with fail
    go_ret
    exact ⟨rfl, bt (bt (bt ((bt (bt ((Below.refl _ _).alloc (Nat.le_refl _) _) hb1) hb2).alloc (by omega) _) hb3) hb4) hb5⟩
  · have hz2 : (check f != 0) = true := by simpa using hz
    rw [enc_bad f hz] at H1
    rw [if_neg hz] at H3
    have hm : mk [] = { data := #[] } := rfl
    simp only [hm] at H1
    clear hz hm
    generalize check f = c at *
    go_enter Try.func6, Try.ntmps6
    go_wp2_with fail
    refine (H1.out _).mono ?_
    rintro e w1 ⟨rfl, hb1⟩
    obtain ⟨hc1, hf1⟩ := bcell hb1
    have hz1 : w.heap.size < w1.heap.size := by have := hb1.size; (try simp at this); omega
    go_wp2_with fail
    refine (H2.out _).mono ?_
    rintro e w2 ⟨rfl, hb2⟩
    obtain ⟨hc3, hf3⟩ := bcell hb2
    have hz3 : w.heap.size < w2.heap.size := by have := hb2.size; (try simp at this); omega
    go_wp2_with fail
    refine (H3.out _).mono ?_
    rintro e w3 ⟨rfl, hb3⟩
    go_wp2_with fail
    refine (awake_any _).mono ?_
    rintro e w4 ⟨rfl, hb4⟩
    go_wp2_with fail
    go_ret
    exact ⟨rfl, bt (bt (bt (bt ((Below.refl _ _).alloc (Nat.le_refl _) _) hb1) hb2) hb3) hb4⟩
end Go.Proofs.Ytiicjbhlcmmijaa
