/-
  The walks of a journal's header and record, the program's and the reference's.
-/
import Derived.Test.YtnglepapodncbaaJou
import Derived.Test.YtnglepapodncbaaStq
import Derived.Test.YtnglepapodncbaaDigB
open Go Go.RowKit Go.Proofs
namespace Go.Proofs.Ytnglepapodncbaa
namespace Hub
theorem headJ_no {g : Int} (h : g < 1 ∨ 1099511627776 < g) : headJ g = ([], 2) := by rw [headJ, if_pos h]
theorem headJ_yes {g : Int} (h1 : ¬ g < 1) (h2 : ¬ 1099511627776 < g) : headJ g = (magicJ ++ enc g, 0) := by rw [headJ, if_neg (by omega)]
theorem magic_str (l : List UInt8) (K : ByteArray) (hK : mk l = K) : (⟨#[72, 74, 49]⟩ : ByteArray) ++ K = mk (magicJ ++ l) := by
  subst hK
  apply bl_inj; rw [bl_append, bl_mk, bl_mk]; rfl
end Hub
open Hub

theorem wHead_any (g : Int) (w : World) (h0 : -9223372036854775808 ≤ g) (h1 : g ≤ 9223372036854775807) :
    Calls Try.prog 13 #[.int .i64 g] w fun e w' => e = .returned (.tuple #[.string (mk (headJ g).1), .int .i64 (headJ g).2]) ∧ Below w.heap.size w w' := by
  by_cases ha : g < 1
  · rw [headJ_no (.inl ha)]
    go_enter Try.func13, Try.ntmps13
    go_wp2_with fail
    go_ret2
    exact ⟨rfl, Below.refl _ _⟩
  · by_cases hb : 1099511627776 < g
    · rw [headJ_no (.inr hb)]
      go_enter Try.func13, Try.ntmps13
      go_wp2_with fail
      go_ret2
      exact ⟨rfl, Below.refl _ _⟩
    · have HE := Lib.hid (magic_str (enc g) _ rfl)
      have HI := Lib.hid (fun w => wInt_any g w h0 h1)
      have hsz : (mk (enc g)).size ≤ 10 := enc_length g h0 h1
      rw [headJ_yes ha hb]
      generalize mk (enc g) = K at *
      go_enter Try.func13, Try.ntmps13
      go_wp2_with fail
      refine (HI.out _).mono ?_
      rintro e w1 ⟨rfl, hb⟩
      go_wp2_with fail
      first | rw [HE.out] | skip
      go_ret2
      exact ⟨rfl, hb⟩

theorem xHead_any (g : Int) (w : World) (h0 : -9223372036854775808 ≤ g) (h1 : g ≤ 9223372036854775807) :
    Calls Try.prog 14 #[.int .i64 g] w fun e w' => e = .returned (.tuple #[.string (mk (headJ g).1), .int .i64 (headJ g).2]) ∧ Below w.heap.size w w' := by
  by_cases ha : g < 1
  · rw [headJ_no (.inl ha)]
    go_enter Try.func14, Try.ntmps14
    go_wp2_with fail
    go_ret2
    exact ⟨rfl, Below.refl _ _⟩
  · by_cases hb : 1099511627776 < g
    · rw [headJ_no (.inr hb)]
      go_enter Try.func14, Try.ntmps14
      go_wp2_with fail
      go_ret2
      exact ⟨rfl, Below.refl _ _⟩
    · have HE := Lib.hid (magic_str (enc g) _ rfl)
      have HI := Lib.hid (fun w => refInt_any g w h0 h1)
      have hsz : (mk (enc g)).size ≤ 10 := enc_length g h0 h1
      rw [headJ_yes ha hb]
      generalize mk (enc g) = K at *
      go_enter Try.func14, Try.ntmps14
      go_wp2_with fail
      refine (HI.out _).mono ?_
      rintro e w1 ⟨rfl, hb⟩
      go_wp2_with fail
      first | rw [HE.out] | skip
      go_ret2
      exact ⟨rfl, hb⟩

set_option maxHeartbeats 1000000 in
theorem wSum_any (p : ByteArray) (n : Nat) (w : World) (hp : p.size ≤ 1099511627700) (hn : n ≤ 1099511627776) :
    Calls Try.prog 38 #[.string p, .int .i64 n] w fun e w' => e = .returned (.string (mk (sumJ (bl p) n))) ∧ Below w.heap.size w w' := by
  have HI := Lib.hid (fun w => wInt_any (n : Int) w (by omega) (by omega))
  have hsz : (mk (enc (n : Int))).size ≤ 10 := enc_length (n : Int) (by omega) (by omega)
  have hs : sumJ (bl p) n = sum4 (crc32 (bl (p ++ mk (enc (n : Int))))).toNat := by rw [sumJ, bl_append, bl_mk]
  rw [hs]; clear hs
  generalize mk (enc (n : Int)) = K at *
  have hC := crc32_any (p ++ K)
  have hlt := (crc32 (bl (p ++ K))).isLt
  have hz : (p ++ K).size = p.size + K.size := ByteArray.size_append
  have HC := Lib.hid (fun w => hC w (by omega))
  clear hC
  generalize (crc32 (bl (p ++ K))).toNat = m at *
  have hk := conv_lit4 (P := Try.prog) 54 9 5 5 Try.underlying54 Try.underlying5 Try.underlying9
  go_enter Try.func38, Try.ntmps38
  go_wp2_with fail
  refine (HI.out _).mono ?_
  rintro e w1 ⟨rfl, hb⟩
  go_wp2_with fail
  refine (HC.out _).mono ?_
  rintro e w2 ⟨rfl, rfl⟩
  go_wp2_with fail
  go_ret
  exact ⟨ret_str (by first | exact sum4_str (m : Int) (by omega) (by omega) | (have := sum4_str (m : Int) (by omega) (by omega); rw [Int.toNat_natCast] at this; exact this)), bt hb ((Below.refl _ _).alloc (Nat.le_refl _) _)⟩

theorem wRec_any (p : ByteArray) (n : Nat) (w : World) (hp : p.size ≤ 1099511627700) (hn : n ≤ 1099511627776) :
    Calls Try.prog 28 #[.string p, .int .i64 n] w fun e w' => e = .returned (.string (mk (recJ (bl p) n))) ∧ Below w.heap.size w w' := by
  have HT := Lib.hid (fun w => wText_any p w (by omega))
  have HS := Lib.hid (fun w => wSum_any p n w hp hn)
  have he : mk (encT (bl p)) ++ mk (sumJ (bl p) n) = mk (recJ (bl p) n) := by apply bl_inj; rw [bl_append, bl_mk, bl_mk, bl_mk, recJ]
  have HE := Lib.hid he
  have h1 : (mk (sumJ (bl p) n)).size = 4 := rfl
  have h2 : (mk (encT (bl p))).size ≤ p.size + 10 := by
    show (encT (bl p)).length ≤ _
    have := enc_length ((bl p).length : Int) (by omega) (by rw [size_bl]; omega)
    rw [encT, List.length_append]
    rw [size_bl] at *
    omega
  clear he
  generalize mk (encT (bl p)) = K at *
  generalize mk (sumJ (bl p) n) = S at *
  go_enter Try.func28, Try.ntmps28
  go_wp2_with fail
  refine (HT.out _).mono ?_
  rintro e w1 ⟨rfl, hb⟩
  go_wp2_with fail
  refine (HS.out _).mono ?_
  rintro e w2 ⟨rfl, hb2⟩
  go_wp2_with fail
  go_ret
  exact ⟨ret_str HE.out, bt hb hb2⟩

set_option maxHeartbeats 1000000 in
theorem xRec_any (p : ByteArray) (n : Nat) (w : World) (hp : p.size ≤ 1099511627700) (hn : n ≤ 1099511627776) :
    Calls Try.prog 29 #[.int .i64 n, .string p] w fun e w' => e = .returned (.string (mk (recJ (bl p) n))) ∧ Below w.heap.size w w' := by
  have HT := Lib.hid (fun w => refText_any p w (by omega))
  have HI := Lib.hid (fun w => refInt_any (n : Int) w (by omega) (by omega))
  have hsz : (mk (enc (n : Int))).size ≤ 10 := enc_length (n : Int) (by omega) (by omega)
  have hlt := (crc32 (bl (p ++ mk (enc (n : Int))))).isLt
  have he : mk (encT (bl p)) ++ mk (sum4 (crc32 (bl (p ++ mk (enc (n : Int))))).toNat) = mk (recJ (bl p) n) := by
    apply bl_inj; rw [bl_append, bl_mk, bl_mk, bl_mk, recJ, sumJ, bl_append, bl_mk]
  have HE := Lib.hid he
  have h1 : (mk (sum4 (crc32 (bl (p ++ mk (enc (n : Int))))).toNat)).size = 4 := rfl
  have h2 : (mk (encT (bl p))).size ≤ p.size + 10 := by
    show (encT (bl p)).length ≤ _
    have := enc_length ((bl p).length : Int) (by omega) (by rw [size_bl]; omega)
    rw [encT, List.length_append]
    rw [size_bl] at *
    omega
  clear he
  generalize mk (encT (bl p)) = K at *
  generalize mk (enc (n : Int)) = E at *
  have hz : (p ++ E).size = p.size + E.size := ByteArray.size_append
  have HC := Lib.hid (fun w => refCrc32_any (p ++ E) w (by omega))
  have HS := Lib.hid (fun w => refSumBytes_any ((crc32 (bl (p ++ E))).toNat : Int) w (by omega) (by omega))
  rw [Int.toNat_natCast] at HS
  generalize mk (sum4 (crc32 (bl (p ++ E))).toNat) = S at *
  generalize (crc32 (bl (p ++ E))).toNat = m at *
  go_enter Try.func29, Try.ntmps29
  go_wp2_with fail
  refine (HT.out _).mono ?_
  rintro e w1 ⟨rfl, hb⟩
  go_wp2_with fail
  refine (HI.out _).mono ?_
  rintro e w2 ⟨rfl, hb2⟩
  go_wp2_with fail
  refine (HC.out _).mono ?_
  rintro e w3 ⟨rfl, rfl⟩
  go_wp2_with fail
  refine (HS.out _).mono ?_
  rintro e w4 ⟨rfl, hb4⟩
  go_wp2_with fail
  go_ret
  exact ⟨ret_str HE.out, bt hb (bt hb2 hb4)⟩
end Go.Proofs.Ytnglepapodncbaa
