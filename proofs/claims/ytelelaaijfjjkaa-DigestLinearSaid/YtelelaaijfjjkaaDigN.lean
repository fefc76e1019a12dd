/-
  The walk of the law on linearity: it returns true, and nothing that was there before has changed.
-/
import Derived.Test.YtelelaaijfjjkaaDigL
import Derived.Test.YtelelaaijfjjkaaDigM
open Go Go.RowKit Go.Proofs
namespace Go.Proofs.Ytelelaaijfjjkaa
open Hub

theorem step_makeB {w : World} {ops : Array Oper} {rest : List Oper} {o : Oper} {a : Act} {Q : Exit → Act → World → Prop}
    (hg : o.guard = none) (l c : Operand) (hop : o.op = Op.makeSlice 33 l c)
    (n : Nat) (hl : a.eval l = .int .i64 (n : Int)) (hc : a.eval c = .int .i64 (n : Int)) (b2 : n ≤ 281474976710656)
    (h : ∀ w1, Below w.heap.size w w1 → HoldsB w1 w.heap.size (List.replicate n 0) → wpList Try.prog ops Q rest (a.put o.dst (.slice (some ⟨w.heap.size, 0, none⟩) n n)) w1) :
    wpList Try.prog ops Q (o :: rest) a w :=
  wpList_makeB hg l c 33 hop 5 Try.underlying33 (by kernel_rfl) n hl hc b2 h

theorem xor3_byte (a b c : UInt8) : bits .xor .u8 (bits .xor .u8 (a.toNat : Int) (b.toNat : Int)) (c.toNat : Int) = ((a ^^^ b ^^^ c).toNat : Int) := by
  rw [u8_xor_nat _ _ (UInt8.toNat_lt _) (UInt8.toNat_lt _), ← UInt8.toNat_xor, u8_xor_nat _ _ (UInt8.toNat_lt _) (UInt8.toNat_lt _), ← UInt8.toNat_xor]
theorem xor_i64 {n : Nat} (hn : n ≤ 62) (a b c : BitVec n) : bits .xor .i64 (bits .xor .i64 (a.toNat : Int) (b.toNat : Int)) (c.toNat : Int) = ((a ^^^ b ^^^ c).toNat : Int) := by
  have h : ∀ x : BitVec n, x.toNat < 9223372036854775808 := fun x => Nat.lt_of_lt_of_le x.isLt (Nat.le_trans (Nat.pow_le_pow_right (by omega) hn) (by decide))
  rw [i64_xor_nat _ _ (h a) (h b), ← BitVec.toNat_xor, i64_xor_nat _ _ (h _) (h c), ← BitVec.toNat_xor]
/-- What stands in the new slice behind k rounds. -/
def part (a b c : ByteArray) (n k : Nat) : List UInt8 := (xor3 ((bl a).take n) ((bl b).take n) ((bl c).take n)).take k ++ List.replicate (n - k) 0
theorem xor3_length (a b c : ByteArray) (n : Nat) (ha : n ≤ a.size) (hb : n ≤ b.size) (hc : n ≤ c.size) : (xor3 ((bl a).take n) ((bl b).take n) ((bl c).take n)).length = n := by
  simp [xor3, size_bl]; omega
theorem part_length (a b c : ByteArray) (n k : Nat) (ha : n ≤ a.size) (hb : n ≤ b.size) (hc : n ≤ c.size) (hk : k ≤ n) : (part a b c n k).length = n := by
  rw [part, List.length_append, List.length_take, xor3_length a b c n ha hb hc, List.length_replicate]; omega
theorem part_succ (a b c : ByteArray) (n k : Nat) (ha : n ≤ a.size) (hb : n ≤ b.size) (hc : n ≤ c.size) (hk : k < n) :
    part a b c n (k + 1) = (part a b c n k).set k (a[k] ^^^ b[k] ^^^ c[k]) := by
  have hl := xor3_length a b c n ha hb hc
  have hg : (xor3 ((bl a).take n) ((bl b).take n) ((bl c).take n))[k]'(by omega) = a[k] ^^^ b[k] ^^^ c[k] := by simp [xor3]; rfl
  have hs : n - k = (n - (k + 1)) + 1 := by omega
  rw [part, part, List.take_succ_eq_append_getElem (by omega), hg, hs, List.replicate_succ, List.set_append_right _ _ (by rw [List.length_take, hl]; omega)]
  rw [List.length_take, hl, Nat.min_eq_left (by omega), Nat.sub_self, List.set_cons_zero, List.append_assoc]; rfl
theorem part_full (a b c : ByteArray) (n : Nat) (ha : n ≤ a.size) (hb : n ≤ b.size) (hc : n ≤ c.size) : part a b c n n = xor3 ((bl a).take n) ((bl b).take n) ((bl c).take n) := by
  rw [part, Nat.sub_self, List.take_of_length_le (by rw [xor3_length a b c n ha hb hc]; omega)]; simp

set_option maxHeartbeats 2000000 in
theorem linear_any (a b c : ByteArray) (w : World) (ha : a.size ≤ maxLen) (hb : b.size ≤ maxLen) (hc : c.size ≤ maxLen) :
    Calls Try.prog 7 #[.string a, .string b, .string c] w fun e w' => e = .returned (.bool true) ∧ Below w.heap.size w w' := by
  unfold maxLen at ha hb hc
  obtain ⟨n, hn⟩ : ∃ n : Nat, (n : Int) = min (min (min (a.size : Int) b.size) c.size) 500 := ⟨min (min (min a.size b.size) c.size) 500, by omega⟩
  have hmin := fun w => run_min_int4 (P := Try.prog) w #[3, 3, 3, 3] 3 .i64 .i64 .i64 .i64 _ _ _ _ _ hn
  have hna : n ≤ a.size := by omega
  have hnb : n ≤ b.size := by omega
  have hnc : n ≤ c.size := by omega
  have hn5 : n ≤ 500 := by omega
  clear hn
  go_enter Try.func7, Try.ntmps7
  go_wp2_with (at_make; refine step_makeB rfl _ _ rfl n rfl rfl (by omega) ?_; intro w1 hb1 hB1)
  go_loopw [21] (fun i wr => ∃ k : Nat, k ≤ n ∧ i = .int .i64 k ∧ Below w.heap.size w wr ∧ HoldsB wr w.heap.size (part a b c n k)) (fun i _ => n - (intOf i).toNat)
  case atStart => exact ⟨0, by omega, rfl, hb1, by simpa [part] using hB1⟩
  case round =>
    obtain ⟨k, hk, rfl, hbl, hB⟩ := hrel
    by_cases hlt : k < n
    · have hpl : k < (part a b c n k).length := by rw [part_length a b c n k hna hnb hnc hk]; exact hlt
      obtain ⟨hx1, hx2⟩ := hB.2 _ hpl
      have hka : k < a.size := by omega
      have hkb : k < b.size := by omega
      have hkc : k < c.size := by omega
      have hv := xor3_byte a[k] b[k] c[k]
      have HS := hB.set k hpl (a[k] ^^^ b[k] ^^^ c[k])
      rw [← part_succ a b c n k hna hnb hnc hlt, UInt8.toNat_xor, UInt8.toNat_xor] at HS
      have HH := Lib.hid HS.drew
      clear HS hB
      go_wp2
      go_region
      all_goals go_wp2
      go_roundw
      case rel => exact ⟨k + 1, by omega, by go_num, (hbl.setCell (Nat.le_refl _) _).drew, HH.out⟩
      case measure => simp [intOf]; omega
    · obtain rfl : k = n := by omega
      rw [part_full a b c k hna hnb hnc] at hB
      have hxl := xor3_length a b c k hna hnb hnc
      have hA : (bl (a.extract 0 k)).length = k := by rw [size_bl]; simp; omega
      have hL : ∀ s : ByteArray, k ≤ s.size → (bl (s.extract 0 k)).length = k := fun s hs => by rw [size_bl]; simp; omega
      have h16 := crc16_linear (bl (a.extract 0 k)) (bl (b.extract 0 k)) (bl (c.extract 0 k)) (by rw [hL a hna, hL b hnb]) (by rw [hL b hnb, hL c hnc])
      have h32 := crc32_linear (bl (a.extract 0 k)) (bl (b.extract 0 k)) (bl (c.extract 0 k)) (by rw [hL a hna, hL b hnb]) (by rw [hL b hnb, hL c hnc])
      rw [← bl_take, ← bl_take, ← bl_take] at hB hxl
      have hsa : (a.extract 0 k).size = k := by rw [← size_bl]; exact hL a hna
      have hsb : (b.extract 0 k).size = k := by rw [← size_bl]; exact hL b hnb
      have hsc : (c.extract 0 k).size = k := by rw [← size_bl]; exact hL c hnc
      have HC := fun w2 (h : HoldsB w2 w.heap.size (xor3 (bl (a.extract 0 k)) (bl (b.extract 0 k)) (bl (c.extract 0 k)))) => conv_holds (P := Try.prog) 33 9 5 Try.underlying33 Try.underlying5 Try.underlying9 w2 w.heap.size k k _ hxl h
      have HCw := HC _ hB.drew
      clear HC hA hL
      generalize xor3 (bl (a.extract 0 k)) (bl (b.extract 0 k)) (bl (c.extract 0 k)) = X at *
      have hx16 := xor_i64 (n := 16) (by omega) (crc16 (bl (a.extract 0 k))) (crc16 (bl (b.extract 0 k))) (crc16 (bl (c.extract 0 k)))
      have hx32 := xor_i64 (n := 32) (by omega) (crc32 (bl (a.extract 0 k))) (crc32 (bl (b.extract 0 k))) (crc32 (bl (c.extract 0 k)))
      rw [← h16] at hx16
      rw [← h32] at hx32
      clear h16 h32
      go_wp2
      go_region
      generalize a.extract 0 k = a2 at *
      generalize b.extract 0 k = b2 at *
      generalize c.extract 0 k = c2 at *
      go_wp2_with fail
      refine (crc16_any _ _ (by rw [size_mk]; omega)).mono ?_
      rintro e w3 ⟨rfl, rfl⟩
      rw [bl_mk]
      go_wp2_with fail
      refine (crc16_any _ _ (by omega)).mono ?_
      rintro e w3 ⟨rfl, rfl⟩
      go_wp2_with fail
      refine (crc16_any _ _ (by omega)).mono ?_
      rintro e w3 ⟨rfl, rfl⟩
      go_wp2_with fail
      refine (crc16_any _ _ (by omega)).mono ?_
      rintro e w3 ⟨rfl, rfl⟩
      go_wp2_with fail
      refine (crc32_any _ _ (by rw [size_mk]; omega)).mono ?_
      rintro e w3 ⟨rfl, rfl⟩
      rw [bl_mk]
      go_wp2_with fail
      refine (crc32_any _ _ (by omega)).mono ?_
      rintro e w3 ⟨rfl, rfl⟩
      go_wp2_with fail
      refine (crc32_any _ _ (by omega)).mono ?_
      rintro e w3 ⟨rfl, rfl⟩
      go_wp2_with fail
      refine (crc32_any _ _ (by omega)).mono ?_
      rintro e w3 ⟨rfl, rfl⟩
      go_wp2_with fail
      refine (awake_any _).mono ?_
      rintro e w4 ⟨rfl, hb4⟩
      go_wp2_with fail
      go_ret
      exact ⟨rfl, bt hbl.drew hb4⟩
end Go.Proofs.Ytelelaaijfjjkaa
