/-
  The walk of the seventh law.
-/
import Derived.Test.YtiicjbhlcmmijaaFrmL4
import Derived.Test.YtiicjbhlcmmijaaFrmL3
open Go Go.RowKit Go.Proofs
namespace Go.Proofs.Ytiicjbhlcmmijaa
open Hub

theorem body_part (f : Fr) : (mk (withSum (body f))).extract 0 (11 + f.dat.size - 2) = mk (body f) := by
  apply bl_inj
  rw [bl_take, bl_mk, bl_mk, withSum, List.take_append_of_le_length (by rw [body_length]; omega), List.take_of_length_le (by rw [body_length]; omega)]
theorem sum_four (f : Fr) (hz : check f = 0) (m : ByteArray) (hm : 0 < m.size) : decD (bl (mk (withSum (bl (mk (body f) ++ m))))) = (zeroFr, 4) := by
  rw [bl_mk, bl_append, bl_mk]
  apply dec_four
  · rw [List.length_append, body_length]; omega
  · rw [at_head _ _ _ (by rw [body_length]; omega), at8_enc f hz, List.length_append, body_length, size_bl]; omega
theorem cut_four (f : Fr) (hz : check f = 0) (k : Nat) (h9 : 9 ≤ k) (hk : k < 9 + f.dat.size) : decD (bl (mk (withSum (bl ((mk (body f)).extract 0 k))))) = (zeroFr, 4) := by
  have hl : ((body f).take k).length = k := by rw [List.length_take, body_length]; omega
  have h8 : at_ ((body f).take k) 8 = at_ (body f) 8 := by
    rw [at_get _ _ (by omega), at_get _ _ (by rw [body_length]; omega), List.getElem_take]
  rw [bl_mk, bl_take, bl_mk]
  apply dec_four
  · omega
  · rw [h8, at8_enc f hz, hl]; omega

set_option maxHeartbeats 4000000 in
theorem lengths_any (f : Fr) (cut : Int) (m : ByteArray) (w : World) (g0 : -9223372036854775808 ≤ cut) (g1 : cut ≤ 9223372036854775807) (_hs : m.size ≤ maxLen) : Calls Try.prog 9 #[.agg #[.int .i64 f.kind, .int .i64 f.frm, .int .i64 f.to, .int .i64 f.src, .int .i64 f.tgt, .int .i64 f.seq, .int .i64 f.hops, .bool f.urg, .string f.dat], .int .i64 cut, .string m] w fun e w' => e = .returned (.bool true) ∧ Below w.heap.size w w' := by
  have H1 := Lib.hid (fun w => encode_any f w)
  have HA := Lib.hid awake_any
  by_cases hz : check f = 0
  · have h109 := (check_zero hz).2.2.2.1
    have hsz := enc_size f
    have hbp := body_part f
    have hS := Lib.hid (sum_four f hz m)
    have hC := Lib.hid (cut_four f hz)
    have hbs : (mk (body f)).size = 9 + f.dat.size := by rw [size_mk, body_length]
    rw [enc_ok f hz] at H1
    simp only at H1
    generalize mk (withSum (body f)) = s at *
    generalize mk (body f) = b at *
    clear hz
    by_cases hm20 : 20 < m.size
    · have hm2 : decide ((20 : Int) < (m.size : Int)) = true := by simp; omega
      go_enter Try.func9, Try.ntmps9
      go_wp2_with fail
      refine (H1.out _).mono ?_
      rintro e w1 ⟨rfl, hb1⟩
      go_wp2_with fail
      refine (HA.out _).mono ?_
      rintro e w2 ⟨rfl, hb2⟩
      go_wp2_with fail
      go_ret
      exact ⟨rfl, bt (bt ((Below.refl _ _).alloc (Nat.le_refl _) _) hb1) hb2⟩
    · have hm2 : decide ((20 : Int) < (m.size : Int)) = false := by simp; omega
      have hem := toList_isEmpty m
      by_cases hme : m.size = 0
      · have hem2 : m.toList.isEmpty = true := by rw [hem]; exact decide_eq_true hme
        clear hem
        by_cases hc1 : cut < 9
        · have hd1 : decide ((9 : Int) ≤ cut) = false := by simp; omega
          clear hC hS
          go_enter Try.func9, Try.ntmps9
          go_wp2_with fail
          refine (H1.out _).mono ?_
          rintro e w1 ⟨rfl, hb1⟩
          go_wp2_with fail
          refine (HA.out _).mono ?_
          rintro e w2 ⟨rfl, hb2⟩
          go_wp2_with fail
          go_ret
          exact ⟨rfl, bt (bt ((Below.refl _ _).alloc (Nat.le_refl _) _) hb1) hb2⟩
        · have hd1 : decide ((9 : Int) ≤ cut) = true := by simp; omega
          by_cases hc2 : cut < 9 + (f.dat.size : Int)
          · have hd2 : decide (cut < 9 + (f.dat.size : Int)) = true := by simp; omega
            have hk := hC.out cut.toNat (by omega) (by omega)
            have hks : (b.extract 0 cut.toNat).size = cut.toNat := by rw [ByteArray.size_extract]; omega
            clear hC hS
            generalize hx : b.extract 0 cut.toNat = x at *
            have C1 := Lib.hid (fun w => refSum_any x w (by omega))
            have hxs := withSum_size x
            generalize mk (withSum (bl x)) = xs at *
            have C2 := Lib.hid (fun w => decode_any xs w (by omega))
            rw [hk] at C2
            simp only [Fr.val, zeroFr] at C2
            go_enter Try.func9, Try.ntmps9
            go_wp2_with fail
            refine (H1.out _).mono ?_
            rintro e w1 ⟨rfl, hb1⟩
            go_wp2_with fail
            refine (C1.out _).mono ?_
            rintro e w2 ⟨rfl, hb2⟩
            go_wp2_with fail
            refine (C2.out _).mono ?_
            rintro e w3 ⟨rfl, hb3⟩
            go_wp2_with fail
            refine (HA.out _).mono ?_
            rintro e w4 ⟨rfl, hb4⟩
            go_wp2_with fail
            go_ret
            exact ⟨rfl, bt (bt (bt (bt ((Below.refl _ _).alloc (Nat.le_refl _) _) hb1) hb2) hb3) hb4⟩
          · have hd2 : decide (cut < 9 + (f.dat.size : Int)) = false := by simp; omega
            clear hC hS
            go_enter Try.func9, Try.ntmps9
            go_wp2_with fail
            refine (H1.out _).mono ?_
            rintro e w1 ⟨rfl, hb1⟩
            go_wp2_with fail
            refine (HA.out _).mono ?_
            rintro e w2 ⟨rfl, hb2⟩
            go_wp2_with fail
            go_ret
            exact ⟨rfl, bt (bt ((Below.refl _ _).alloc (Nat.le_refl _) _) hb1) hb2⟩
      · have hem2 : m.toList.isEmpty = false := by rw [hem]; exact decide_eq_false hme
        clear hem
        by_cases hc1 : cut < 9
        · have hd1 : decide ((9 : Int) ≤ cut) = false := by simp; omega
          have hsm := hS.out (by omega)
          have hbm : (b ++ m).size ≤ 1000 := by rw [ByteArray.size_append]; omega
          clear hC hS
          generalize hy : b ++ m = y at *
          have S1 := Lib.hid (fun w => refSum_any y w (by omega))
          have hys := withSum_size y
          generalize mk (withSum (bl y)) = ys at *
          have S2 := Lib.hid (fun w => decode_any ys w (by omega))
          rw [hsm] at S2
          simp only [Fr.val, zeroFr] at S2
          go_enter Try.func9, Try.ntmps9
          go_wp2_with fail
          refine (H1.out _).mono ?_
          rintro e w1 ⟨rfl, hb1⟩
          go_wp2_with fail
          refine (S1.out _).mono ?_
          rintro e w2 ⟨rfl, hb2⟩
          go_wp2_with fail
          refine (S2.out _).mono ?_
          rintro e w3 ⟨rfl, hb3⟩
          go_wp2_with fail
          refine (HA.out _).mono ?_
          rintro e w4 ⟨rfl, hb4⟩
          go_wp2_with fail
          go_ret
          exact ⟨rfl, bt (bt (bt (bt ((Below.refl _ _).alloc (Nat.le_refl _) _) hb1) hb2) hb3) hb4⟩
        · have hd1 : decide ((9 : Int) ≤ cut) = true := by simp; omega
          by_cases hc2 : cut < 9 + (f.dat.size : Int)
          · have hd2 : decide (cut < 9 + (f.dat.size : Int)) = true := by simp; omega
            have hk := hC.out cut.toNat (by omega) (by omega)
            have hks : (b.extract 0 cut.toNat).size = cut.toNat := by rw [ByteArray.size_extract]; omega
            have hsm := hS.out (by omega)
            have hbm : (b ++ m).size ≤ 1000 := by rw [ByteArray.size_append]; omega
            clear hC hS
            generalize hx : b.extract 0 cut.toNat = x at *
            have C1 := Lib.hid (fun w => refSum_any x w (by omega))
            have hxs := withSum_size x
            generalize mk (withSum (bl x)) = xs at *
            have C2 := Lib.hid (fun w => decode_any xs w (by omega))
            rw [hk] at C2
            simp only [Fr.val, zeroFr] at C2
            generalize hy : b ++ m = y at *
            have S1 := Lib.hid (fun w => refSum_any y w (by omega))
            have hys := withSum_size y
            generalize mk (withSum (bl y)) = ys at *
            have S2 := Lib.hid (fun w => decode_any ys w (by omega))
            rw [hsm] at S2
            simp only [Fr.val, zeroFr] at S2
            go_enter Try.func9, Try.ntmps9
            go_wp2_with fail
            refine (H1.out _).mono ?_
            rintro e w1 ⟨rfl, hb1⟩
            go_wp2_with fail
            refine (S1.out _).mono ?_
            rintro e w2 ⟨rfl, hb2⟩
            go_wp2_with fail
            refine (S2.out _).mono ?_
            rintro e w3 ⟨rfl, hb3⟩
            go_wp2_with fail
            refine (C1.out _).mono ?_
            rintro e w4 ⟨rfl, hb4⟩
            go_wp2_with fail
            refine (C2.out _).mono ?_
            rintro e w5 ⟨rfl, hb5⟩
            go_wp2_with fail
            refine (HA.out _).mono ?_
            rintro e w6 ⟨rfl, hb6⟩
            go_wp2_with fail
            go_ret
            exact ⟨rfl, bt (bt (bt (bt (bt (bt ((Below.refl _ _).alloc (Nat.le_refl _) _) hb1) hb2) hb3) hb4) hb5) hb6⟩
          · have hd2 : decide (cut < 9 + (f.dat.size : Int)) = false := by simp; omega
            have hsm := hS.out (by omega)
            have hbm : (b ++ m).size ≤ 1000 := by rw [ByteArray.size_append]; omega
            clear hC hS
            generalize hy : b ++ m = y at *
            have S1 := Lib.hid (fun w => refSum_any y w (by omega))
            have hys := withSum_size y
            generalize mk (withSum (bl y)) = ys at *
            have S2 := Lib.hid (fun w => decode_any ys w (by omega))
            rw [hsm] at S2
            simp only [Fr.val, zeroFr] at S2
            go_enter Try.func9, Try.ntmps9
            go_wp2_with fail
            refine (H1.out _).mono ?_
            rintro e w1 ⟨rfl, hb1⟩
            go_wp2_with fail
            refine (S1.out _).mono ?_
            rintro e w2 ⟨rfl, hb2⟩
            go_wp2_with fail
            refine (S2.out _).mono ?_
            rintro e w3 ⟨rfl, hb3⟩
            go_wp2_with fail
            refine (HA.out _).mono ?_
            rintro e w4 ⟨rfl, hb4⟩
            go_wp2_with fail
            go_ret
            exact ⟨rfl, bt (bt (bt (bt ((Below.refl _ _).alloc (Nat.le_refl _) _) hb1) hb2) hb3) hb4⟩
  · have hz2 : (check f != 0) = true := by simpa using hz
    rw [enc_bad f hz] at H1
    simp only at H1
    clear hz
    generalize check f = c at *
    go_enter Try.func9, Try.ntmps9
    go_wp2_with fail
    refine (H1.out _).mono ?_
    rintro e w1 ⟨rfl, hb1⟩
    go_wp2_with fail
    refine (HA.out _).mono ?_
    rintro e w2 ⟨rfl, hb2⟩
    go_wp2_with fail
    go_ret
    exact ⟨rfl, bt (bt ((Below.refl _ _).alloc (Nat.le_refl _) _) hb1) hb2⟩
end Go.Proofs.Ytiicjbhlcmmijaa
