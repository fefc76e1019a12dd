/-
  The walks of the laws of layer 3: each returns true, and nothing that was there before has changed.
-/
import Derived.Test.YtelelaaijfjjkaaDigC
open Go Go.RowKit Go.Proofs
namespace Go.Proofs.Ytelelaaijfjjkaa
open Hub

def sx : ByteArray := { data := #[120] }
theorem awake_crc16 : (crc16 (bl { data := #[49, 50, 51, 52, 53, 54, 55, 56, 57] })).toNat = 10673 := by decide +kernel
theorem awake_crc32 : (crc32 (bl { data := #[49, 50, 51, 52, 53, 54, 55, 56, 57] })).toNat = 3421780262 := by decide +kernel
theorem awake_fnv : (fnv (bl { data := #[97] })).toNat = 12638187200555641996 := by decide +kernel
theorem awake_open : openD 5 (bl (mk (sealD 5 (bl { data := #[120] })))) = ([120], 0) := by decide +kernel
theorem awake_short : openD 5 (bl { data := #[97, 98, 99] }) = ([], 5) := by decide +kernel
theorem awake_empty : (crc16 (bl { data := #[] })).toNat = 65535 := by decide +kernel

set_option maxHeartbeats 1000000 in
theorem awake_any (w : World) : Calls Try.prog 10 #[] w fun e w' => e = .returned (.bool true) ∧ Below w.heap.size w w' := by
  have HS := Lib.hid (fun w => seal_any 5 { data := #[120] } w (by omega) (by omega) (by decide))
  have HO := Lib.hid (fun w => open_any 5 (mk (sealD (5 : Int).toNat (bl { data := #[120] }))) w (by omega) (by omega) (by decide +kernel))
  have HO2 := Lib.hid (fun w => open_any 5 { data := #[97, 98, 99] } w (by omega) (by omega) (by decide +kernel))
  rw [show ((5 : Int).toNat) = 5 from rfl] at HS HO HO2
  rw [awake_open] at HO
  rw [awake_short] at HO2
  generalize mk (sealD 5 (bl { data := #[120] })) = K at *
  go_enter Try.func10, Try.ntmps10
  go_wp2_with fail
  refine (HS.out _).mono ?_
  rintro e w1 ⟨rfl, hb1⟩
  go_wp2_with fail
  refine (HO.out _).mono ?_
  rintro e w2 ⟨rfl, hb2⟩
  go_wp2_with fail
  refine (HO2.out _).mono ?_
  rintro e w3 ⟨rfl, hb3⟩
  go_wp2_with fail
  refine (crc16_any _ _ (by decide)).mono ?_
  rintro e w4 ⟨rfl, rfl⟩
  rw [awake_crc16]
  go_wp2_with fail
  refine (crc32_any _ _ (by decide)).mono ?_
  rintro e w5 ⟨rfl, rfl⟩
  rw [awake_crc32]
  go_wp2_with fail
  refine (fnv_any _ _ (by decide)).mono ?_
  rintro e w5 ⟨rfl, rfl⟩
  rw [awake_fnv]
  go_wp2_with fail
  refine (crc16_any _ _ (by decide)).mono ?_
  rintro e w5 ⟨rfl, rfl⟩
  rw [awake_empty]
  have hm := toList_mk
  go_wp2_with fail
  go_ret
  exact ⟨rfl, bt hb1 (bt hb2 hb3)⟩

set_option maxHeartbeats 1000000 in
theorem checks_any (s : ByteArray) (w : World) (hs : s.size ≤ maxLen) : Calls Try.prog 3 #[.string s] w fun e w' => e = .returned (.bool true) ∧ Below w.heap.size w w' := by
  unfold maxLen at hs
  by_cases hl : s.size ≤ 2000
  · go_enter Try.func3, Try.ntmps3
    go_wp2_with (first
      | (go_at_call 11; refine (crc16_any _ _ (by omega)).mono ?_; rintro e w1 ⟨rfl, rfl⟩)
      | (go_at_call 12; refine (refCrc16_any _ _ (by omega)).mono ?_; rintro e w1 ⟨rfl, rfl⟩)
      | (go_at_call 13; refine (crc32_any _ _ (by omega)).mono ?_; rintro e w1 ⟨rfl, rfl⟩)
      | (go_at_call 14; refine (refCrc32_any _ _ (by omega)).mono ?_; rintro e w1 ⟨rfl, rfl⟩)
      | (go_at_call 15; refine (fnv_any _ _ (by omega)).mono ?_; rintro e w1 ⟨rfl, rfl⟩)
      | (go_at_call 16; refine (refFnv_any _ _ (by omega)).mono ?_; rintro e w1 ⟨rfl, rfl⟩)
      | (go_at_call 10; refine (awake_any _).mono ?_; rintro e w1 ⟨rfl, hb⟩))
    go_ret
    exact ⟨rfl, hb⟩
  · go_enter Try.func3, Try.ntmps3
    go_wp2_with (go_at_call 10; refine (awake_any _).mono ?_; rintro e w1 ⟨rfl, hb⟩)
    go_ret
    exact ⟨rfl, hb⟩

set_option maxHeartbeats 1000000 in
theorem seals_any (n : Int) (s : ByteArray) (w : World) (h0 : 0 ≤ n) (h1 : n ≤ 18446744073709551615) (hs : s.size ≤ maxLen) : Calls Try.prog 4 #[.int .u64 n, .string s] w fun e w' => e = .returned (.bool true) ∧ Below w.heap.size w w' := by
  unfold maxLen at hs
  by_cases hl : s.size ≤ 2000
  · have HS := Lib.hid (fun w => seal_any n s w h0 h1 (by omega))
    have HR := Lib.hid (fun w => refSeal_any n s w h0 h1 (by omega))
    have HM := Lib.hid (fun w => mac_any n s w h0 h1 (by omega))
    have HN := Lib.hid (fun w => refMac_any n s w h0 h1 (by omega))
    generalize mk (sealD n.toNat (bl s)) = K at *
    generalize mac n.toNat (bl s) = m at *
    go_enter Try.func4, Try.ntmps4
    go_wp2_with fail
    refine (HM.out _).mono ?_
    rintro e w1 ⟨rfl, hb1⟩
    go_wp2_with fail
    refine (HN.out _).mono ?_
    rintro e w2 ⟨rfl, hb2⟩
    go_wp2_with fail
    refine (HS.out _).mono ?_
    rintro e w3 ⟨rfl, hb3⟩
    go_wp2_with fail
    refine (HR.out _).mono ?_
    rintro e w4 ⟨rfl, hb4⟩
    go_wp2_with fail
    refine (awake_any _).mono ?_
    rintro e w5 ⟨rfl, hb5⟩
    go_wp2_with fail
    go_ret
    exact ⟨rfl, bt hb1 (bt hb2 (bt hb3 (bt hb4 hb5)))⟩
  · go_enter Try.func4, Try.ntmps4
    go_wp2_with (go_at_call 10; refine (awake_any _).mono ?_; rintro e w1 ⟨rfl, hb⟩)
    go_ret
    exact ⟨rfl, hb⟩

theorem u8_of (c : Int) (h0 : 0 ≤ c) (h1 : c ≤ 255) : ∃ b : UInt8, c = (b.toNat : Int) := ⟨UInt8.ofNat c.toNat, by simp; omega⟩
theorem strOfNums_one (b : UInt8) : strOfNums [(b.toNat : Int)] = mk [b] := by rw [strOfNums_mk]; simp
theorem extends_val (s : ByteArray) (b : UInt8) : IntKind.u64.wrap (bits BinOp.xor IntKind.u64 ((fnv (bl s)).toNat : Int) (b.toNat : Int) * 1099511628211) = ((fnv (bl (s ++ strOfNums [(b.toNat : Int)]))).toNat : Int) := by
  have h := fnv_round (fnv (bl s)) b
  rw [w64_in] at h
  rw [h, strOfNums_one, bl_append, bl_mk]
  unfold fnv
  rw [List.foldl_append, List.foldl_cons, List.foldl_nil]
theorem fnv_empty : (fnv (bl { data := #[] })).toNat = 14695981039346656037 := by decide +kernel

set_option maxHeartbeats 1000000 in
theorem extends_any (s : ByteArray) (c : Int) (w : World) (hs : s.size ≤ maxLen) (h0 : 0 ≤ c) (h1 : c ≤ 255) : Calls Try.prog 9 #[.string s, .int .u8 c] w fun e w' => e = .returned (.bool true) ∧ Below w.heap.size w w' := by
  unfold maxLen at hs
  by_cases hl : s.size ≤ 2000
  · obtain ⟨b, hb⟩ := u8_of c h0 h1
    have hv := extends_val s b
    rw [← hb] at hv
    clear hb b
    have hsz := strOfNums_size
    have hk := conv_lit1 (P := Try.prog) 33 9 5 5 Try.underlying33 Try.underlying5 Try.underlying9
    go_enter Try.func9, Try.ntmps9
    go_wp2_with fail
    refine (fnv_any _ _ (by simp [ByteArray.size_append, hsz]; omega)).mono ?_
    rintro e w1 ⟨rfl, rfl⟩
    go_wp2_with fail
    refine (fnv_any _ _ (by omega)).mono ?_
    rintro e w1 ⟨rfl, rfl⟩
    go_wp2_with fail
    refine (fnv_any _ _ (by decide)).mono ?_
    rintro e w1 ⟨rfl, rfl⟩
    rw [fnv_empty]
    go_wp2_with fail
    refine (awake_any _).mono ?_
    rintro e w5 ⟨rfl, hb5⟩
    go_wp2_with fail
    go_ret
    exact ⟨rfl, bt ((Below.refl _ _).alloc (Nat.le_refl _) _) hb5⟩
  · go_enter Try.func9, Try.ntmps9
    go_wp2_with (go_at_call 10; refine (awake_any _).mono ?_; rintro e w1 ⟨rfl, hb⟩)
    go_ret
    exact ⟨rfl, hb⟩

theorem step_bytes {w : World} {ops : Array Oper} {rest : List Oper} {o : Oper} {a : Act} {Q : Exit → Act → World → Prop} (hgd : o.guard = none) (x : Operand)
    (ho : o.op = .convert 9 33 x) (s : ByteArray) (hx : a.eval x = .string s)
    (h : ∀ w1 cap, Below w.heap.size w w1 → w1.heap.size = w.heap.size + 1 → s.size ≤ cap → HoldsB w1 w.heap.size (bl s) → wpList Try.prog ops Q rest (a.put o.dst (.slice (some ⟨w.heap.size, 0, none⟩) s.size cap)) w1) : wpList Try.prog ops Q (o :: rest) a w :=
  wpList_bytes hgd x 9 33 5 ho Try.underlying9 Try.underlying33 Try.underlying5 s hx h
theorem step_tostr {w : World} {ops : Array Oper} {rest : List Oper} {o : Oper} {a : Act} {Q : Exit → Act → World → Prop} (hgd : o.guard = none) (x : Operand)
    (ho : o.op = .convert 33 9 x) (B cap len : Nat) (l : List UInt8)
    (hx : a.eval x = .slice (some ⟨B, 0, none⟩) len cap) (hl : l.length = len) (hc : HoldsB w B l)
    (h : wpList Try.prog ops Q rest (a.put o.dst (.string (mk l))) w) : wpList Try.prog ops Q (o :: rest) a w :=
  wpList_tostr hgd x 33 9 5 ho Try.underlying33 Try.underlying5 Try.underlying9 B cap len l hx hl hc h

set_option maxHeartbeats 1000000 in
theorem opens_any (n : Int) (s : ByteArray) (at_ c : Int) (w : World) (h0 : 0 ≤ n) (h1 : n ≤ 18446744073709551615) (hs : s.size ≤ maxLen) (g0 : -9223372036854775808 ≤ at_) (g1 : at_ ≤ 9223372036854775807) (c0 : 0 ≤ c) (c1 : c ≤ 255) :
    Calls Try.prog 5 #[.int .u64 n, .string s, .int .i64 at_, .int .u8 c] w fun e w' => e = .returned (.bool true) ∧ Below w.heap.size w w' := by
  unfold maxLen at hs
  by_cases hl : s.size ≤ 2000
  · obtain ⟨cb, rfl⟩ := u8_of c c0 c1
    clear c0 c1
    have HO := Lib.hid (fun w => open_any n s w h0 h1 (by omega))
    have HP := Lib.hid (fun w => refOpen_any n s w h0 h1 (by omega))
    have HS := Lib.hid (fun w => refSeal_any n s w h0 h1 (by omega))
    have HOl := Lib.hid (fun (l : List UInt8) (h : l.length ≤ 3000) w => open_any n (mk l) w h0 h1 (by rw [size_mk]; omega))
    have HPl := Lib.hid (fun (l : List UInt8) (h : l.length ≤ 3000) w => refOpen_any n (mk l) w h0 h1 (by rw [size_mk]; omega))
    have hK : (mk (sealD n.toNat (bl s))).size ≤ 3000 := by rw [size_mk]; simp only [sealD, sum4, List.length_append, size_bl, List.length_cons, List.length_nil]; omega
    generalize mk (sealD n.toNat (bl s)) = K at *
    generalize openD n.toNat (bl s) = r at *
    go_enter Try.func5, Try.ntmps5
    go_wp2_with fail
    refine (HO.out _).mono ?_
    rintro e w1 ⟨rfl, hb1⟩
    go_wp2_with fail
    refine (HP.out _).mono ?_
    rintro e w2 ⟨rfl, hb2⟩
    go_wp2_with fail
    refine (HS.out _).mono ?_
    rintro e w3 ⟨rfl, hb3⟩
    by_cases hat : 0 ≤ at_ ∧ at_ < K.size
    · obtain ⟨ha0, ha1⟩ := hat
      have hin : at_.toNat < (bl K).length := by rw [size_bl]; omega
      go_wp2_with (first
        | (refine step_bytes rfl _ rfl _ rfl ?_; intro w4 cap hb4 hz4 hcap hB4; obtain ⟨hx1, hx2⟩ := hB4.2 at_.toNat hin)
        | (refine step_tostr rfl _ rfl _ _ _ ((bl K).set at_.toNat cb) rfl ?_ ?_ ?_; (· rw [List.length_set, size_bl]); (· exact hB4.set _ hin _)))
      have hl2 : ((bl K).set at_.toNat cb).length = K.size := by rw [List.length_set, size_bl]
      have hB5 := hB4.set _ hin cb
      have hb5 := Below.setCell (bt hb1 (bt hb2 (bt hb3 hb4))) (p := ⟨w3.heap.size, at_.toNat, none⟩) (Nat.le_trans hb1.size (Nat.le_trans hb2.size hb3.size)) (.int .u8 (cb.toNat : Int))
      generalize w4.setCell ⟨w3.heap.size, at_.toNat, none⟩ (.int .u8 (cb.toNat : Int)) = w5 at *
      generalize (bl K).set at_.toNat cb = l at *
      refine (HOl.out l (by omega) _).mono ?_
      rintro e w6 ⟨rfl, hb6⟩
      have hB6 := hB5.below hb6 hB5.1
      have HPm := Lib.hid (fun w => HPl.out l (by omega) w)
      generalize openD n.toNat (bl (mk l)) = r2 at *
      go_wp2_with (refine step_tostr rfl _ rfl _ _ _ l rfl (by omega) hB6 ?_)
      refine (HPm.out _).mono ?_
      rintro e w7 ⟨rfl, hb7⟩
      go_wp2_with fail
      refine (awake_any _).mono ?_
      rintro e w8 ⟨rfl, hb8⟩
      go_wp2_with fail
      go_ret
      exact ⟨rfl, bt hb5 (bt hb6 (bt hb7 hb8))⟩
    · have HB := Lib.hid hat
      by_cases hat0 : 0 ≤ at_
      · have hat1 : ¬ at_ < K.size := fun h => hat ⟨hat0, h⟩
        clear hat
        go_wp2_with (first
          | (refine step_bytes rfl _ rfl _ rfl ?_; intro w4 cap hb4 hz4 hcap hB4)
          | (refine step_tostr rfl _ rfl _ _ _ (bl K) rfl ?_ ?_ ?_; (· rw [size_bl]); (· exact hB4)))
        have hl2 : (bl K).length = K.size := size_bl K
        generalize bl K = l at *
        refine (HOl.out l (by omega) _).mono ?_
        rintro e w6 ⟨rfl, hb6⟩
        have hB6 := hB4.below hb6 hB4.1
        have HPm := Lib.hid (fun w => HPl.out l (by omega) w)
        generalize openD n.toNat (bl (mk l)) = r2 at *
        go_wp2_with (refine step_tostr rfl _ rfl _ _ _ l rfl (by omega) hB6 ?_)
        refine (HPm.out _).mono ?_
        rintro e w7 ⟨rfl, hb7⟩
        go_wp2_with fail
        refine (awake_any _).mono ?_
        rintro e w8 ⟨rfl, hb8⟩
        go_wp2_with fail
        go_ret
        exact ⟨rfl, bt hb1 (bt hb2 (bt hb3 (bt hb4 (bt hb6 (bt hb7 hb8)))))⟩
      · clear hat
        go_wp2_with (first
          | (refine step_bytes rfl _ rfl _ rfl ?_; intro w4 cap hb4 hz4 hcap hB4)
          | (refine step_tostr rfl _ rfl _ _ _ (bl K) rfl ?_ ?_ ?_; (· rw [size_bl]); (· exact hB4)))
        have hl2 : (bl K).length = K.size := size_bl K
        generalize bl K = l at *
        refine (HOl.out l (by omega) _).mono ?_
        rintro e w6 ⟨rfl, hb6⟩
        have hB6 := hB4.below hb6 hB4.1
        have HPm := Lib.hid (fun w => HPl.out l (by omega) w)
        generalize openD n.toNat (bl (mk l)) = r2 at *
        go_wp2_with (refine step_tostr rfl _ rfl _ _ _ l rfl (by omega) hB6 ?_)
        refine (HPm.out _).mono ?_
        rintro e w7 ⟨rfl, hb7⟩
        go_wp2_with fail
        refine (awake_any _).mono ?_
        rintro e w8 ⟨rfl, hb8⟩
        go_wp2_with fail
        go_ret
        exact ⟨rfl, bt hb1 (bt hb2 (bt hb3 (bt hb4 (bt hb6 (bt hb7 hb8)))))⟩
  · go_enter Try.func5, Try.ntmps5
    go_wp2_with (go_at_call 10; refine (awake_any _).mono ?_; rintro e w1 ⟨rfl, hb⟩)
    go_ret
    exact ⟨rfl, hb⟩

theorem openD_app (n : Nat) (l q : List UInt8) (hq : q.length = 4) : openD n (l ++ q) = if q = sum4 (mac n l) then (l, 0) else ([], 6) := by
  have h1 : (l ++ q).length - 4 = l.length := by rw [List.length_append, hq]; omega
  rw [openD, if_neg (by rw [List.length_append, hq]; omega), h1, List.drop_left, List.take_left]
theorem other_val (x : Int) (s : ByteArray) (h0 : 0 ≤ x) (h1 : x ≤ 4294967295) : s ++ strOfNums [x / 16777216, x / 65536 % 256, x / 256 % 256, x % 256] = mk (bl s ++ sum4 x.toNat) := by
  rw [sum4_str x h0 h1]; apply bl_inj; rw [bl_append, bl_mk, bl_mk]

set_option maxHeartbeats 1000000 in
theorem returns_any (n : Int) (s : ByteArray) (x : Int) (w : World) (h0 : 0 ≤ n) (h1 : n ≤ 18446744073709551615) (hs : s.size ≤ maxLen) (x0 : 0 ≤ x) (x1 : x ≤ 4294967295) :
    Calls Try.prog 6 #[.int .u64 n, .string s, .int .u32 x] w fun e w' => e = .returned (.bool true) ∧ Below w.heap.size w w' := by
  unfold maxLen at hs
  by_cases hl : s.size ≤ 2000
  · have HS := Lib.hid (fun w => seal_any n s w h0 h1 (by omega))
    have hKs : (mk (sealD n.toNat (bl s))).size = s.size + 4 := by rw [size_mk, sealD, List.length_append, size_bl]; rfl
    have hKe : (mk (sealD n.toNat (bl s))).extract 0 s.size = s := by
      apply bl_inj; rw [bl_take, bl_mk, sealD, ← size_bl, List.take_left]
    have HO := Lib.hid (fun w => open_any n (mk (sealD n.toNat (bl s))) w h0 h1 (by omega))
    rw [bl_mk, sealD, openD_app _ _ _ (by rfl), if_pos rfl, ← sealD, mk_bl] at HO
    have hov := other_val x s x0 x1
    have hoz : (mk (bl s ++ sum4 x.toNat)).size = s.size + 4 := by rw [size_mk, List.length_append, size_bl]; rfl
    have HX := Lib.hid (fun w => open_any n (mk (bl s ++ sum4 x.toNat)) w h0 h1 (by omega))
    rw [bl_mk, openD_app _ _ _ (by rfl)] at HX
    have hk := conv_lit4 (P := Try.prog) 33 9 5 5 Try.underlying33 Try.underlying5 Try.underlying9
    have hsz := strOfNums_size
    have hm := toList_mk
    by_cases hx : sum4 x.toNat = sum4 (mac n.toNat (bl s))
    · have he : (mk (bl s ++ sum4 x.toNat)) = mk (sealD n.toNat (bl s)) := by rw [hx, sealD]
      rw [he] at hov
      clear HX hoz he
      generalize mk (sealD n.toNat (bl s)) = K at *
      go_enter Try.func6, Try.ntmps6
      go_wp2_with fail
      refine (HS.out _).mono ?_
      rintro e w1 ⟨rfl, hb1⟩
      go_wp2_with fail
      refine (HO.out _).mono ?_
      rintro e w2 ⟨rfl, hb2⟩
      go_wp2_with fail
      refine (awake_any _).mono ?_
      rintro e w3 ⟨rfl, hb3⟩
      go_wp2_with fail
      go_ret
      exact ⟨rfl, bt hb1 (bt hb2 (bt ((Below.refl _ _).alloc (Nat.le_refl _) _) hb3))⟩
    · have he : ((mk (bl s ++ sum4 x.toNat)).toList == (mk (sealD n.toNat (bl s))).toList) = false := beq_of_ne (fun e => hx (List.append_cancel_left (congrArg bl e)))
      rw [if_neg hx] at HX
      clear hx
      clear hm
      have hm : (mk []).toList = [] := toList_mk []
      generalize mk (sealD n.toNat (bl s)) = K at *
      generalize mk (bl s ++ sum4 x.toNat) = X at *
      go_enter Try.func6, Try.ntmps6
      go_wp2_with fail
      refine (HS.out _).mono ?_
      rintro e w1 ⟨rfl, hb1⟩
      go_wp2_with fail
      refine (HO.out _).mono ?_
      rintro e w2 ⟨rfl, hb2⟩
      go_wp2_with fail
      refine (HX.out _).mono ?_
      rintro e w3 ⟨rfl, hb3⟩
      go_wp2_with fail
      refine (awake_any _).mono ?_
      rintro e w4 ⟨rfl, hb4⟩
      go_wp2_with fail
      go_ret
      exact ⟨rfl, bt hb1 (bt hb2 (bt ((Below.refl _ _).alloc (Nat.le_refl _) _) (bt hb3 hb4)))⟩
  · go_enter Try.func6, Try.ntmps6
    go_wp2_with (go_at_call 10; refine (awake_any _).mono ?_; rintro e w1 ⟨rfl, hb⟩)
    go_ret
    exact ⟨rfl, hb⟩
end Go.Proofs.Ytelelaaijfjjkaa
