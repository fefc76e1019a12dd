/-
  The walks of the keyed checksum, sealing and opening, the program's and the reference's.
-/
import Derived.Test.YtegngjdeifbdiaaDigB
import Derived.Deep.QuietTactic
import Derived.BigQuiet
open Go Go.RowKit Go.Proofs
namespace Go.Proofs.Ytegngjdeifbdiaa
open Hub

theorem key8_str8 (n : Int) (h0 : 0 ≤ n) (h1 : n ≤ 18446744073709551615) : strOfNums [n / 72057594037927936, n / 281474976710656 % 256, n / 1099511627776 % 256, n / 4294967296 % 256, n / 16777216 % 256, n / 65536 % 256, n / 256 % 256, n % 256] = mk (key8 n.toNat) := by
  rw [← key8_str n h0 h1]; rfl
theorem mac_val (n : Nat) (s : ByteArray) : ((fnv (bl (mk (key8 n) ++ s ++ mk (key8 n)))).toNat : Int) / 4294967296 = (mac n (bl s) : Nat) := by
  rw [bl_append, bl_append, bl_mk, mac]; omega
theorem mac_lt (n : Nat) (l : List UInt8) : mac n l ≤ 4294967295 := by
  have := (fnv (key8 n ++ l ++ key8 n)).isLt
  rw [mac]; omega

set_option maxHeartbeats 1000000 in
theorem mac_any (n : Int) (s : ByteArray) (w : World) (h0 : 0 ≤ n) (h1 : n ≤ 18446744073709551615) (hs : s.size ≤ 1099511627760) :
    Calls Try.prog 38 #[.int .u64 n, .string s] w fun e w' => e = .returned (.int .i64 (mac n.toNat (bl s) : Nat)) ∧ Below w.heap.size w w' := by
  have hk := conv_lit8 (P := Try.prog) 61 9 5 70 Try.underlying61 Try.underlying5 Try.underlying9
  have hk2 := fun wx nn c hn => hk wx nn c hn (n / 72057594037927936) (n / 281474976710656 % 256) (n / 1099511627776 % 256) (n / 4294967296 % 256) (n / 16777216 % 256) (n / 65536 % 256) (n / 256 % 256) (n % 256)
  clear hk
  rw [key8_str8 n h0 h1] at hk2
  have hz : (mk (key8 n.toNat)).size = 8 := rfl
  have HV := Lib.hid (mac_val n.toNat s)
  generalize mk (key8 n.toNat) = K at *
  go_enter Try.func38, Try.ntmps38
  go_wp2_with (first | (go_at_call 47; refine (key8_any _ _ h0 h1).mono ?_; rw [key8_vals n h0 h1]; rintro e w1 ⟨rfl, hb⟩) | (go_at_call 48; refine (fnv_any _ _ (by simp [ByteArray.size_append]; omega)).mono ?_; rintro e w2 ⟨rfl, rfl⟩))
  go_ret
  exact ⟨ret_int HV.out, hb.trans ((Below.refl _ _).alloc hb.size _)⟩

set_option maxHeartbeats 1000000 in
theorem refMac_any (n : Int) (s : ByteArray) (w : World) (h0 : 0 ≤ n) (h1 : n ≤ 18446744073709551615) (hs : s.size ≤ 1099511627760) :
    Calls Try.prog 40 #[.int .u64 n, .string s] w fun e w' => e = .returned (.int .i64 (mac n.toNat (bl s) : Nat)) ∧ Below w.heap.size w w' := by
  have hz : (mk (key8 n.toNat)).size = 8 := rfl
  have HV := Lib.hid (mac_val n.toNat s)
  have HK := Lib.hid (fun w => refKeyBytes_any n w h0 h1)
  generalize mk (key8 n.toNat) = K at *
  go_enter Try.func40, Try.ntmps40
  go_wp2_with fail
  refine (HK.out _).mono ?_
  rintro e w1 ⟨rfl, hb⟩
  go_wp2_with fail
  refine (HK.out _).mono ?_
  rintro e w2 ⟨rfl, hb2⟩
  go_wp2_with (go_at_call 49; refine (refFnv_any _ _ (by simp [ByteArray.size_append]; omega)).mono ?_; rintro e w2 ⟨rfl, rfl⟩)
  go_ret
  exact ⟨ret_int HV.out, hb.trans (hb2.mono hb.size)⟩

theorem seal_val (n : Nat) (s : ByteArray) (K : ByteArray) (hK : mk (sum4 (mac n (bl s))) = K) : s ++ K = mk (sealD n (bl s)) := by
  subst hK; apply bl_inj; rw [bl_append, bl_mk, bl_mk, sealD]

set_option maxHeartbeats 1000000 in
theorem seal_any (n : Int) (s : ByteArray) (w : World) (h0 : 0 ≤ n) (h1 : n ≤ 18446744073709551615) (hs : s.size ≤ 1099511627760) :
    Calls Try.prog 21 #[.int .u64 n, .string s] w fun e w' => e = .returned (.string (mk (sealD n.toNat (bl s)))) ∧ Below w.heap.size w w' := by
  have hm := mac_lt n.toNat (bl s)
  have HV := Lib.hid (seal_val n.toNat s)
  have HM := Lib.hid (fun w => mac_any n s w h0 h1 hs)
  generalize mac n.toNat (bl s) = m at *
  have hk := conv_lit4 (P := Try.prog) 61 9 5 58 Try.underlying61 Try.underlying5 Try.underlying9
  have hk2 := fun wx nn c hn => hk wx nn c hn ((m : Int) / 16777216) ((m : Int) / 65536 % 256) ((m : Int) / 256 % 256) ((m : Int) % 256)
  clear hk
  rw [sum4_str m (by omega) (by omega), Int.toNat_natCast] at hk2
  have hz : (mk (sum4 m)).size = 4 := rfl
  generalize mk (sum4 m) = K at *
  go_enter Try.func21, Try.ntmps21
  go_wp2_with fail
  refine (HM.out _).mono ?_
  rintro e w1 ⟨rfl, hb⟩
  go_wp2_with (go_at_call 37; refine (sum4_any _ _ (by omega) (by omega)).mono ?_; rw [sum4_vals m (by omega) (by omega)]; rintro e w2 ⟨rfl, hb2⟩)
  go_ret
  exact ⟨ret_str (HV.out _ rfl), hb.trans ((hb2.mono hb.size).trans ((Below.refl _ _).alloc (Nat.le_trans hb.size hb2.size) _))⟩

set_option maxHeartbeats 1000000 in
theorem refSeal_any (n : Int) (s : ByteArray) (w : World) (h0 : 0 ≤ n) (h1 : n ≤ 18446744073709551615) (hs : s.size ≤ 1099511627760) :
    Calls Try.prog 24 #[.int .u64 n, .string s] w fun e w' => e = .returned (.string (mk (sealD n.toNat (bl s)))) ∧ Below w.heap.size w w' := by
  have hm := mac_lt n.toNat (bl s)
  have HV := Lib.hid (seal_val n.toNat s)
  have HM := Lib.hid (fun w => refMac_any n s w h0 h1 hs)
  generalize mac n.toNat (bl s) = m at *
  have hz : (mk (sum4 m)).size = 4 := rfl
  have HS := Lib.hid (fun w => refSumBytes_any (m : Int) w (by omega) (by omega))
  rw [Int.toNat_natCast] at HS
  generalize mk (sum4 m) = K at *
  go_enter Try.func24, Try.ntmps24
  go_wp2_with fail
  refine (HM.out _).mono ?_
  rintro e w1 ⟨rfl, hb⟩
  go_wp2_with (go_at_call 39; refine (HS.out _).mono ?_; rintro e w2 ⟨rfl, hb2⟩)
  go_ret
  exact ⟨ret_str (HV.out _ rfl), hb.trans (hb2.mono hb.size)⟩

theorem openD_val (n : Nat) (s : ByteArray) (hl : ¬ s.size < 4) : openD n (bl s) =
    if bl (s.extract (s.size - 4) s.size) = sum4 (mac n (bl (s.extract 0 (s.size - 4)))) then (bl (s.extract 0 (s.size - 4)), 0) else ([], 6) := by
  rw [openD, if_neg (by rw [size_bl]; exact hl), bl_drop, bl_take, size_bl]

set_option maxHeartbeats 1000000 in
theorem open_any (n : Int) (s : ByteArray) (w : World) (h0 : 0 ≤ n) (h1 : n ≤ 18446744073709551615) (hs : s.size ≤ 1099511627760) :
    Calls Try.prog 27 #[.int .u64 n, .string s] w fun e w' => e = .returned (.tuple #[.string (mk (openD n.toNat (bl s)).1), .int .i64 (openD n.toNat (bl s)).2]) ∧ Below w.heap.size w w' := by
  by_cases hl : s.size < 4
  · have ho : openD n.toNat (bl s) = ([], 5) := by rw [openD, if_pos (by rw [size_bl]; exact hl)]
    rw [ho]; clear ho
    go_enter Try.func27, Try.ntmps27
    go_wp2
    go_ret2
    exact ⟨rfl, Below.refl _ _⟩
  · have hl2 : decide ((s.size : Int) < 4) = false := by simp; omega
    have ht : (s.extract 0 (s.size - 4)).size = s.size - 4 := by simp
    have HM := Lib.hid (fun w => mac_any n (s.extract 0 (s.size - 4)) w h0 h1 (by omega))
    have HO := Lib.hid (openD_val n.toNat s (by omega))
    have hm := mac_lt n.toNat (bl (s.extract 0 (s.size - 4)))
    generalize mac n.toNat (bl (s.extract 0 (s.size - 4))) = m at *
    have hk := conv_lit4 (P := Try.prog) 61 9 5 58 Try.underlying61 Try.underlying5 Try.underlying9
    have hk2 := fun wx nn c hn => hk wx nn c hn ((m : Int) / 16777216) ((m : Int) / 65536 % 256) ((m : Int) / 256 % 256) ((m : Int) % 256)
    have hkd := conv_lit4d (P := Try.prog) 61 9 5 58 Try.underlying61 Try.underlying5 Try.underlying9
    have hk3 := fun wx nn c hn => hkd wx nn c hn ((m : Int) / 16777216) ((m : Int) / 65536 % 256) ((m : Int) / 256 % 256) ((m : Int) % 256)
    clear hk hkd
    rw [sum4_str m (by omega) (by omega), Int.toNat_natCast] at hk2 hk3
    have hz : (mk (sum4 m)).size = 4 := rfl
    go_enter Try.func27, Try.ntmps27
    go_wp2_with fail
    generalize s.extract 0 (s.size - 4) = t at *
    refine (HM.out _).mono ?_
    rintro e w1 ⟨rfl, hb⟩
    go_wp2_with (go_at_call 37; refine (sum4_any _ _ (by omega) (by omega)).mono ?_; rw [sum4_vals m (by omega) (by omega)]; rintro e w2 ⟨rfl, hb2⟩)
    go_region
    all_goals go_wp2
    · have hne := bne_yes (by assumption)
      rw [HO.out, if_neg (fun e => hne (eq_mk e))]
      go_ret2
      exact ⟨rfl, hb.trans ((hb2.mono hb.size).trans (((Below.refl _ _).alloc (Nat.le_trans hb.size hb2.size) _).drew))⟩
    · have heq := bne_no (by assumption)
      rw [HO.out, if_pos (by rw [heq, bl_mk]), mk_bl]
      go_ret2
      exact ⟨rfl, hb.trans ((hb2.mono hb.size).trans (((Below.refl _ _).alloc (Nat.le_trans hb.size hb2.size) _).drew))⟩

theorem seal_ne (n : Nat) (s : ByteArray) (hl : ¬ s.size < 4) : openD n (bl s) = if mk (sealD n (bl (s.extract 0 (s.size - 4)))) = s then (bl (s.extract 0 (s.size - 4)), 0) else ([], 6) := by
  rw [openD_val n s hl]
  have e : (mk (sealD n (bl (s.extract 0 (s.size - 4)))) = s) ↔ (bl (s.extract (s.size - 4) s.size) = sum4 (mac n (bl (s.extract 0 (s.size - 4))))) := by
    rw [bl_drop, bl_take]
    have h1 : (bl s).take (s.size - 4) ++ (bl s).drop (s.size - 4) = bl s := List.take_append_drop _ _
    constructor
    · intro h
      have h2 := congrArg bl h
      rw [bl_mk] at h2
      rw [sealD] at h2
      exact (List.append_cancel_left (h1.trans h2.symm))
    · intro h
      rw [sealD, ← h, h1, mk_bl]
  by_cases h : bl (s.extract (s.size - 4) s.size) = sum4 (mac n (bl (s.extract 0 (s.size - 4))))
  · rw [if_pos h, if_pos (e.2 h)]
  · rw [if_neg h, if_neg (fun g => h (e.1 g))]

set_option maxHeartbeats 1000000 in
theorem refOpen_any (n : Int) (s : ByteArray) (w : World) (h0 : 0 ≤ n) (h1 : n ≤ 18446744073709551615) (hs : s.size ≤ 1099511627760) :
    Calls Try.prog 32 #[.int .u64 n, .string s] w fun e w' => e = .returned (.tuple #[.string (mk (openD n.toNat (bl s)).1), .int .i64 (openD n.toNat (bl s)).2]) ∧ Below w.heap.size w w' := by
  by_cases hl : s.size < 4
  · have ho : openD n.toNat (bl s) = ([], 5) := by rw [openD, if_pos (by rw [size_bl]; exact hl)]
    rw [ho]; clear ho
    go_enter Try.func32, Try.ntmps32
    go_wp2
    go_ret2
    exact ⟨rfl, Below.refl _ _⟩
  · have hl2 : decide ((s.size : Int) < 4) = false := by simp; omega
    have ht : (s.extract 0 (s.size - 4)).size = s.size - 4 := by simp
    have HM := Lib.hid (fun w => refSeal_any n (s.extract 0 (s.size - 4)) w h0 h1 (by omega))
    have HO := Lib.hid (seal_ne n.toNat s (by omega))
    go_enter Try.func32, Try.ntmps32
    go_wp2_with fail
    generalize s.extract 0 (s.size - 4) = t at *
    generalize mk (sealD n.toNat (bl t)) = K at *
    refine (HM.out _).mono ?_
    rintro e w1 ⟨rfl, hb⟩
    go_wp2
    · have hne := bne_yes (by assumption)
      rw [HO.out, if_neg hne]
      go_ret2
      exact ⟨rfl, hb⟩
    · have heq := bne_no (by assumption)
      rw [HO.out, if_pos heq, mk_bl]
      go_ret2
      exact ⟨rfl, hb⟩
end Go.Proofs.Ytegngjdeifbdiaa
