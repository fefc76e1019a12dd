/-
  The walk of the second law.
-/
import Derived.Test.YtiicjbhlcmmijaaFrmW
import Derived.Test.YtiicjbhlcmmijaaFrmO
open Go Go.RowKit Go.Proofs
namespace Go.Proofs.Ytiicjbhlcmmijaa
open Hub

set_option maxHeartbeats 2000000 in
theorem encodes_any (f : Fr) (w : World) : Calls Try.prog 4 #[.agg #[.int .i64 f.kind, .int .i64 f.frm, .int .i64 f.to, .int .i64 f.src, .int .i64 f.tgt, .int .i64 f.seq, .int .i64 f.hops, .bool f.urg, .string f.dat]] w fun e w' => e = .returned (.bool true) ∧ Below w.heap.size w w' := by
  by_cases hl : 300 < f.dat.size
  · have hl2 : decide ((300 : Int) < (f.dat.size : Int)) = true := by simp; omega
    go_enter Try.func4, Try.ntmps4
    go_wp2_with fail
    refine (awake_any _).mono ?_
    rintro e w1 ⟨rfl, hb⟩
    go_wp2_with fail
    go_ret
    exact ⟨rfl, bt ((Below.refl _ _).alloc (Nat.le_refl _) _) hb⟩
  · have hl2 : decide ((300 : Int) < (f.dat.size : Int)) = false := by simp; omega
    have H1 := Lib.hid (fun w => encode_any f w)
    have H2 := Lib.hid (fun w => refEncode_any f w)
    generalize mk (encD f).1 = s at *
    generalize (encD f).2 = c at *
    go_enter Try.func4, Try.ntmps4
    go_wp2_with fail
    refine (H1.out _).mono ?_
    rintro e w1 ⟨rfl, hb1⟩
    obtain ⟨hc1, hf1⟩ := bcell hb1
    have hz1 : w.heap.size < w1.heap.size := by have := hb1.size; (try simp at this); omega
    go_wp2_with fail
    refine (H2.out _).mono ?_
    rintro e w2 ⟨rfl, hb2⟩
    go_wp2_with fail
    refine (awake_any _).mono ?_
    rintro e w3 ⟨rfl, hb3⟩
    go_wp2_with fail
    go_ret
    exact ⟨rfl, bt (bt (bt ((Below.refl _ _).alloc (Nat.le_refl _) _) hb1) hb2) hb3⟩
end Go.Proofs.Ytiicjbhlcmmijaa
