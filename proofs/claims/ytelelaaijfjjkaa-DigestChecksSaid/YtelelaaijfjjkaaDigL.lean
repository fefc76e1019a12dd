/-
  The walks of the laws of layer 3: each returns true, and nothing that was there before has changed.
-/
import Derived.Test.YtelelaaijfjjkaaDigC
open Go Go.RowKit Go.Proofs
namespace Go.Proofs.Ytelelaaijfjjkaa
open Hub

def sx : ByteArray := { data := #[120] }
theorem awake_crc16 : (crc16 (bl { data := #[49, 50, 51, 52, 53, 54, 55, 56, 57] })).toNat = 10673 := by decide +kernel
theorem awake_crc32 : (crc32 (bl { data := #[49, 50, 51, 52, 53, 54, 55, 56, 57] })).toNat = 3421780262 := by decide +kernel
theorem awake_fnv : (fnv (bl { data := #[97] })).toNat = 12638187200555641996 := by decide +kernel
theorem awake_open : openD 5 (bl (mk (sealD 5 (bl { data := #[120] })))) = ([120], 0) := by decide +kernel
theorem awake_short : openD 5 (bl { data := #[97, 98, 99] }) = ([], 5) := by decide +kernel
theorem awake_empty : (crc16 (bl { data := #[] })).toNat = 65535 := by decide +kernel

set_option maxHeartbeats 1000000 in
theorem awake_any (w : World) : Calls Try.prog 10 #[] w fun e w' => e = .returned (.bool true) ∧ Below w.heap.size w w' := by
  have HS := Lib.hid (fun w => seal_any 5 { data := #[120] } w (by omega) (by omega) (by decide))
  have HO := Lib.hid (fun w => open_any 5 (mk (sealD (5 : Int).toNat (bl { data := #[120] }))) w (by omega) (by omega) (by decide +kernel))
  have HO2 := Lib.hid (fun w => open_any 5 { data := #[97, 98, 99] } w (by omega) (by omega) (by decide +kernel))
  rw [show ((5 : Int).toNat) = 5 from rfl] at HS HO HO2
  rw [awake_open] at HO
  rw [awake_short] at HO2
  generalize mk (sealD 5 (bl { data := #[120] })) = K at *
  go_enter Try.func10, Try.ntmps10
  go_wp2_with fail
  refine (HS.out _).mono ?_
  rintro e w1 ⟨rfl, hb1⟩
  go_wp2_with fail
  refine (HO.out _).mono ?_
  rintro e w2 ⟨rfl, hb2⟩
  go_wp2_with fail
  refine (HO2.out _).mono ?_
  rintro e w3 ⟨rfl, hb3⟩
  go_wp2_with fail
  refine (crc16_any _ _ (by decide)).mono ?_
  rintro e w4 ⟨rfl, rfl⟩
  rw [awake_crc16]
  go_wp2_with fail
  refine (crc32_any _ _ (by decide)).mono ?_
  rintro e w5 ⟨rfl, rfl⟩
  rw [awake_crc32]
  go_wp2_with fail
  refine (fnv_any _ _ (by decide)).mono ?_
  rintro e w5 ⟨rfl, rfl⟩
  rw [awake_fnv]
  go_wp2_with fail
  refine (crc16_any _ _ (by decide)).mono ?_
  rintro e w5 ⟨rfl, rfl⟩
  rw [awake_empty]
  have hm := toList_mk
  go_wp2_with fail
  go_ret
  exact ⟨rfl, bt hb1 (bt hb2 hb3)⟩

set_option maxHeartbeats 1000000 in
theorem checks_any (s : ByteArray) (w : World) (hs : s.size ≤ maxLen) : Calls Try.prog 3 #[.string s] w fun e w' => e = .returned (.bool true) ∧ Below w.heap.size w w' := by
  unfold maxLen at hs
  by_cases hl : s.size ≤ 2000
  · go_enter Try.func3, Try.ntmps3
    go_wp2_with (first
      | (go_at_call 11; refine (crc16_any _ _ (by omega)).mono ?_; rintro e w1 ⟨rfl, rfl⟩)
      | (go_at_call 12; refine (refCrc16_any _ _ (by omega)).mono ?_; rintro e w1 ⟨rfl, rfl⟩)
      | (go_at_call 13; refine (crc32_any _ _ (by omega)).mono ?_; rintro e w1 ⟨rfl, rfl⟩)
      | (go_at_call 14; refine (refCrc32_any _ _ (by omega)).mono ?_; rintro e w1 ⟨rfl, rfl⟩)
      | (go_at_call 15; refine (fnv_any _ _ (by omega)).mono ?_; rintro e w1 ⟨rfl, rfl⟩)
      | (go_at_call 16; refine (refFnv_any _ _ (by omega)).mono ?_; rintro e w1 ⟨rfl, rfl⟩)
      | (go_at_call 10; refine (awake_any _).mono ?_; rintro e w1 ⟨rfl, hb⟩))
    go_ret
    exact ⟨rfl, hb⟩
  · go_enter Try.func3, Try.ntmps3
    go_wp2_with (go_at_call 10; refine (awake_any _).mono ?_; rintro e w1 ⟨rfl, hb⟩)
    go_ret
    exact ⟨rfl, hb⟩

set_option maxHeartbeats 1000000 in
theorem seals_any (n : Int) (s : ByteArray) (w : World) (h0 : 0 ≤ n) (h1 : n ≤ 18446744073709551615) (hs : s.size ≤ maxLen) : Calls Try.prog 4 #[.int .u64 n, .string s] w fun e w' => e = .returned (.bool true) ∧ Below w.heap.size w w' := by
  unfold maxLen at hs
  by_cases hl : s.size ≤ 2000
  · have HS := Lib.hid (fun w => seal_any n s w h0 h1 (by omega))
    have HR := Lib.hid (fun w => refSeal_any n s w h0 h1 (by omega))
    have HM := Lib.hid (fun w => mac_any n s w h0 h1 (by omega))
    have HN := Lib.hid (fun w => refMac_any n s w h0 h1 (by omega))
    generalize mk (sealD n.toNat (bl s)) = K at *
    generalize mac n.toNat (bl s) = m at *
    go_enter Try.func4, Try.ntmps4
    go_wp2_with fail
    refine (HM.out _).mono ?_
    rintro e w1 ⟨rfl, hb1⟩
    go_wp2_with fail
    refine (HN.out _).mono ?_
    rintro e w2 ⟨rfl, hb2⟩
    go_wp2_with fail
    refine (HS.out _).mono ?_
    rintro e w3 ⟨rfl, hb3⟩
    go_wp2_with fail
    refine (HR.out _).mono ?_
    rintro e w4 ⟨rfl, hb4⟩
    go_wp2_with fail
    refine (awake_any _).mono ?_
    rintro e w5 ⟨rfl, hb5⟩
    go_wp2_with fail
    go_ret
    exact ⟨rfl, bt hb1 (bt hb2 (bt hb3 (bt hb4 hb5)))⟩
  · go_enter Try.func4, Try.ntmps4
    go_wp2_with (go_at_call 10; refine (awake_any _).mono ?_; rintro e w1 ⟨rfl, hb⟩)
    go_ret
    exact ⟨rfl, hb⟩

theorem u8_of (c : Int) (h0 : 0 ≤ c) (h1 : c ≤ 255) : ∃ b : UInt8, c = (b.toNat : Int) := ⟨UInt8.ofNat c.toNat, by simp; omega⟩
theorem strOfNums_one (b : UInt8) : strOfNums [(b.toNat : Int)] = mk [b] := by rw [strOfNums_mk]; simp
theorem extends_val (s : ByteArray) (b : UInt8) : IntKind.u64.wrap (bits BinOp.xor IntKind.u64 ((fnv (bl s)).toNat : Int) (b.toNat : Int) * 1099511628211) = ((fnv (bl (s ++ strOfNums [(b.toNat : Int)]))).toNat : Int) := by
  have h := fnv_round (fnv (bl s)) b
  rw [w64_in] at h
  rw [h, strOfNums_one, bl_append, bl_mk]
  unfold fnv
  rw [List.foldl_append, List.foldl_cons, List.foldl_nil]
theorem fnv_empty : (fnv (bl { data := #[] })).toNat = 14695981039346656037 := by decide +kernel

set_option maxHeartbeats 1000000 in
theorem extends_any (s : ByteArray) (c : Int) (w : World) (hs : s.size ≤ maxLen) (h0 : 0 ≤ c) (h1 : c ≤ 255) : Calls Try.prog 9 #[.string s, .int .u8 c] w fun e w' => e = .returned (.bool true) ∧ Below w.heap.size w w' := by
  unfold maxLen at hs
  by_cases hl : s.size ≤ 2000
  · obtain ⟨b, hb⟩ := u8_of c h0 h1
    have hv := extends_val s b
    rw [← hb] at hv
    clear hb b
    have hsz := strOfNums_size
    have hk := conv_lit1 (P := Try.prog) 33 9 5 5 Try.underlying33 Try.underlying5 Try.underlying9
    go_enter Try.func9, Try.ntmps9
    go_wp2_with fail
    refine (fnv_any _ _ (by simp [ByteArray.size_append, hsz]; omega)).mono ?_
    rintro e w1 ⟨rfl, rfl⟩
    go_wp2_with fail
    refine (fnv_any _ _ (by omega)).mono ?_
    rintro e w1 ⟨rfl, rfl⟩
    go_wp2_with fail
    refine (fnv_any _ _ (by decide)).mono ?_
    rintro e w1 ⟨rfl, rfl⟩
    rw [fnv_empty]
    go_wp2_with fail
    refine (awake_any _).mono ?_
    rintro e w5 ⟨rfl, hb5⟩
    go_wp2_with fail
    go_ret
    exact ⟨rfl, bt ((Below.refl _ _).alloc (Nat.le_refl _) _) hb5⟩
  · go_enter Try.func9, Try.ntmps9
    go_wp2_with (go_at_call 10; refine (awake_any _).mono ?_; rintro e w1 ⟨rfl, hb⟩)
    go_ret
    exact ⟨rfl, hb⟩
end Go.Proofs.Ytelelaaijfjjkaa
