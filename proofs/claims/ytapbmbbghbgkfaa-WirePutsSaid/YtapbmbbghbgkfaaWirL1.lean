/-
  The walk of the first law: the encodings are the reference's.
-/
import Derived.Test.YtapbmbbghbgkfaaWirO
open Go Go.RowKit Go.Proofs
namespace Go.Proofs.Ytapbmbbghbgkfaa
open Hub

set_option maxHeartbeats 2000000 in
theorem puts_any (n : Int) (s : ByteArray) (v : Value) (l : List Int) (w : World) (h0 : -9223372036854775808 ≤ n) (h1 : n ≤ 9223372036854775807) (hs : s.size ≤ maxLen) (hv : IntsAt 0 w.heap.size w v l) (hbd : IntB l) (hlm : l.length ≤ maxLen) :
    Calls Try.prog 3 #[.int .i64 n, .string s, v] w fun e w' => e = .returned (.bool true) ∧ Below w.heap.size w w' := by
  have HV := Lib.hid hv
  obtain ⟨a, cap, rfl, hcc⟩ := hv
  clear hcc
  have hs' : s.size ≤ 9223372036854775807 := hs
  have hlm' : l.length ≤ 9223372036854775807 := hlm
  clear hs hlm
  have HW := Lib.hid awake_any
  by_cases hz : s.size ≤ 500
  · by_cases hl : l.length ≤ 100
    · have A1 := Lib.hid (fun w => wInt_any n w h0 h1)
      have A2 := Lib.hid (fun w => refInt_any n w h0 h1)
      have A3 := Lib.hid (fun w => wText_any s w (by omega))
      have A4 := Lib.hid (fun w => refText_any s w (by omega))
      have A5 := Lib.hid (fun w' hb => wInts_any _ l 0 w.heap.size w' (HV.out.below (M := w.heap.size) hb (Nat.le_refl _)) hb.size (by omega) hbd)
      have A6 := Lib.hid (fun w' hb => refInts_any _ l 0 w.heap.size w' (HV.out.below (M := w.heap.size) hb (Nat.le_refl _)) hb.size (by omega) hbd)
      have A7 := Lib.hid (fun w => wBool_any true w)
      have A8 := Lib.hid (fun w => refBool_any true w)
      have A9 := Lib.hid (fun w => wBool_any false w)
      have A10 := Lib.hid (fun w => refBool_any false w)
      generalize mk (enc n) = K1 at *
      generalize mk (encT (bl s)) = K2 at *
      generalize mk (encL l) = K3 at *
      generalize mk (encB true) = K4 at *
      generalize mk (encB false) = K5 at *
      clear h0 h1
      go_enter Try.func3, Try.ntmps3
      go_wp2_with fail
      refine (A1.out _).mono ?_
      rintro e w1 ⟨rfl, hb1⟩
      go_wp2_with fail
      refine (A2.out _).mono ?_
      rintro e w2 ⟨rfl, hb2⟩
      go_wp2_with fail
      refine (A3.out _).mono ?_
      rintro e w3 ⟨rfl, hb3⟩
      go_wp2_with fail
      refine (A4.out _).mono ?_
      rintro e w4 ⟨rfl, hb4⟩
      have hb := bt (bt (bt hb1 hb2) hb3) hb4
      go_wp2_with fail
      refine (A5.out _ hb).mono ?_
      rintro e w5 ⟨rfl, hb5⟩
      have hb' := bt hb hb5
      go_wp2_with fail
      refine (A6.out _ hb').mono ?_
      rintro e w6 ⟨rfl, hb6⟩
      go_wp2_with fail
      refine (A7.out _).mono ?_
      rintro e w7 ⟨rfl, rfl⟩
      go_wp2_with fail
      refine (A8.out _).mono ?_
      rintro e w7 ⟨rfl, rfl⟩
      go_wp2_with fail
      refine (A9.out _).mono ?_
      rintro e w7 ⟨rfl, rfl⟩
      go_wp2_with fail
      refine (A10.out _).mono ?_
      rintro e w7 ⟨rfl, rfl⟩
      go_wp2_with fail
      refine (HW.out _).mono ?_
      rintro e w8 ⟨rfl, hb8⟩
      go_wp2_with fail
      go_ret
      exact ⟨rfl, bt (bt hb' hb6) hb8⟩
    · have hli : (100 : Int) < (l.length : Int) := by omega
      go_enter Try.func3, Try.ntmps3
      go_wp2_with fail
      refine (HW.out _).mono ?_
      rintro e w8 ⟨rfl, hb8⟩
      go_wp2_with fail
      go_ret
      exact ⟨rfl, hb8⟩
  · have hzi : (500 : Int) < (s.size : Int) := by omega
    go_enter Try.func3, Try.ntmps3
    go_wp2_with fail
    refine (HW.out _).mono ?_
    rintro e w8 ⟨rfl, hb8⟩
    go_wp2_with fail
    go_ret
    exact ⟨rfl, hb8⟩
end Go.Proofs.Ytapbmbbghbgkfaa
