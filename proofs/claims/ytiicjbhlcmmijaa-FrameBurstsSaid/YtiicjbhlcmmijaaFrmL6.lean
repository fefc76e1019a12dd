/-
  The walk of the sixth law.
-/
import Derived.Test.YtiicjbhlcmmijaaFrmL4
import Derived.Test.YtiicjbhlcmmijaaFrmR
open Go Go.RowKit Go.Proofs
namespace Go.Proofs.Ytiicjbhlcmmijaa
open Hub

theorem step_bytes {w : World} {ops : Array Oper} {rest : List Oper} {o : Oper} {a : Act} {Q : Exit → Act → World → Prop} (hgd : o.guard = none) (x : Operand)
    (ho : o.op = .convert 9 37 x) (s : ByteArray) (hx : a.eval x = .string s)
    (h : ∀ w1 cap, Below w.heap.size w w1 → w1.heap.size = w.heap.size + 1 → s.size ≤ cap → HoldsB w1 w.heap.size (bl s) → wpList Try.prog ops Q rest (a.put o.dst (.slice (some ⟨w.heap.size, 0, none⟩) s.size cap)) w1) : wpList Try.prog ops Q (o :: rest) a w :=
  wpList_bytes hgd x 9 37 5 ho Try.underlying9 Try.underlying37 Try.underlying5 s hx h
theorem conv_holds (w : World) (B cap len : Nat) (l : List UInt8) (hl : l.length = len) (hc : HoldsB w B l) : (convert 37 9 (.slice (some ⟨B, 0, none⟩) len cap)).run Try.prog w = .ok (.string (mk l)) w := by
  subst hl
  exact run_convert_bytes_back (P := Try.prog) w 37 9 5 ⟨B, 0, none⟩ cap l Try.underlying37 Try.underlying5 Try.underlying9 (fun j hj => by rw [add_plain]; exact (hc.2 j hj).1)

set_option maxHeartbeats 4000000 in
theorem bursts_any (f : Fr) (at' x : Int) (w : World) (g0 : -9223372036854775808 ≤ at') (g1 : at' ≤ 9223372036854775807) (x0 : 0 ≤ x) (x1 : x ≤ 65535) : Calls Try.prog 8 #[.agg #[.int .i64 f.kind, .int .i64 f.frm, .int .i64 f.to, .int .i64 f.src, .int .i64 f.tgt, .int .i64 f.seq, .int .i64 f.hops, .bool f.urg, .string f.dat], .int .i64 at', .int .u16 x] w fun e w' => e = .returned (.bool true) ∧ Below w.heap.size w w' := by
  have H1 := Lib.hid (fun w => encode_any f w)
  have HA := Lib.hid awake_any
  by_cases hz : check f = 0
  · have h109 := (check_zero hz).2.2.2.1
    have hsz := enc_size f
    have hcr := enc_crc f
    rw [enc_ok f hz] at H1
    simp only at H1
    rw [show withSum (body f) = bl (mk (withSum (body f))) from (bl_mk _).symm] at hcr
    generalize mk (withSum (body f)) = s at *
    generalize f.dat.size = n at *
    clear hz
    by_cases hin : 0 ≤ at' ∧ at' < s.size
    · obtain ⟨ha0, ha1⟩ := hin
      obtain ⟨p, rfl⟩ := Int.eq_ofNat_of_zero_le ha0
      clear g0 g1 ha0
      by_cases h2 : p + 1 < s.size
      · have HR := Lib.hid (two_dec (bl s) hcr p (by rw [size_bl]; omega) (UInt8.ofNat x.toNat) (UInt8.ofNat (x.toNat / 256)))
        have hd1 : ((11 : Int) + (n : Int) == 0) = false := by simp; omega
        have hd2 : decide ((p : Int) < 0) = false := by simp
        have hd3 : decide ((11 : Int) + (n : Int) ≤ (p : Int)) = false := by simp; omega
        have hp1 : p < (bl s).length := by rw [size_bl]; omega
        have hp2 : p + 1 < (bl s).length := by rw [size_bl]; omega
        have hv1 : x % 256 = ((UInt8.ofNat x.toNat).toNat : Int) := by simp; omega
        have hv2 : x / 256 = ((UInt8.ofNat (x.toNat / 256)).toNat : Int) := by simp; omega
        generalize UInt8.ofNat x.toNat = c at *
        generalize UInt8.ofNat (x.toNat / 256) = d at *
        have hw1 := u8_xor_nat (bl s)[p].toNat c.toNat (UInt8.toNat_lt _) (UInt8.toNat_lt _)
        have hw2 := u8_xor_nat (bl s)[p + 1].toNat d.toNat (UInt8.toNat_lt _) (UInt8.toNat_lt _)
        have hll : (((bl s).set p ((bl s)[p] ^^^ c)).set (p + 1) ((bl s)[p + 1] ^^^ d)).length = 11 + n := by rw [List.length_set, List.length_set, size_bl, hsz]
        have HS := Lib.hid (fun (w2 : World) (B cap : Nat) (hB2 : HoldsB w2 B (bl s)) => conv_holds _ B cap (11 + n) _ hll ((hB2.set p hp1 ((bl s)[p] ^^^ c)).set (p + 1) (by rw [List.length_set]; exact hp2) ((bl s)[p + 1] ^^^ d)))
        generalize ((bl s).set p ((bl s)[p] ^^^ c)).set (p + 1) ((bl s)[p + 1] ^^^ d) = l2 at *
        simp only [UInt8.toNat_xor] at HS
        go_enter Try.func8, Try.ntmps8
        go_wp2_with fail
        refine (H1.out _).mono ?_
        rintro e w1 ⟨rfl, hb1⟩
        go_wp2_with (refine step_bytes rfl _ rfl _ rfl ?_; intro w2 cap hb2 hz2 hcap hB2; obtain ⟨hx1, hx2⟩ := hB2.2 _ hp1; obtain ⟨hy1, hy2⟩ := hB2.2 _ hp2; have hcv := HS.out _ _ cap hB2)
        · refine (HA.out _).mono ?_
          rintro e w3 ⟨rfl, hb3⟩
          go_wp2_with fail
          go_ret
          have q1 : w.heap.size ≤ w1.heap.size := by have := hb1.size; (try simp at this); omega
          refine ⟨rfl, bt ?_ hb3⟩
          iterate 2 (refine Below.setCell ?_ q1 _)
          exact bt (bt ((Below.refl _ _).alloc (Nat.le_refl _) _) hb1) hb2
        · rename_i hne _ _ _ _
          have hne2 : l2 ≠ bl s := fun h => by
            exact beq_no hne (bl_inj (by rw [bl_mk, h]))
          have hz := HR.out hne2
          refine (decode_any _ _ (by rw [size_mk]; omega)).mono ?_
          rw [bl_mk]
          have hz2' : ((decD l2).2 != 0) = true := by simpa using hz
          generalize (decD l2).2 = e2 at *
          rintro e w3 ⟨rfl, hb3⟩
          go_wp2_with fail
          refine (HA.out _).mono ?_
          rintro e w4 ⟨rfl, hb4⟩
          go_wp2_with fail
          go_ret
          have q1 : w.heap.size ≤ w1.heap.size := by have := hb1.size; (try simp at this); omega
          refine ⟨rfl, bt (bt ?_ hb3) hb4⟩
          iterate 2 (refine Below.setCell ?_ q1 _)
          exact bt (bt ((Below.refl _ _).alloc (Nat.le_refl _) _) hb1) hb2
      · have HR := Lib.hid (one_dec (bl s) hcr (by rw [size_bl]; omega) p (by rw [size_bl]; omega) (UInt8.ofNat x.toNat))
        have hd1 : ((11 : Int) + (n : Int) == 0) = false := by simp; omega
        have hd2 : decide ((p : Int) < 0) = false := by simp
        have hd3 : decide ((11 : Int) + (n : Int) ≤ (p : Int)) = false := by simp; omega
        have hd4 : decide ((p : Int) + 1 < 11 + (n : Int)) = false := by simp; omega
        have hp1 : p < (bl s).length := by rw [size_bl]; omega
        have hv1 : x % 256 = ((UInt8.ofNat x.toNat).toNat : Int) := by simp; omega
        generalize UInt8.ofNat x.toNat = c at *
        have hw1 := u8_xor_nat (bl s)[p].toNat c.toNat (UInt8.toNat_lt _) (UInt8.toNat_lt _)
        have hll : ((bl s).set p ((bl s)[p] ^^^ c)).length = 11 + n := by rw [List.length_set, size_bl, hsz]
        have HS := Lib.hid (fun (w2 : World) (B cap : Nat) (hB2 : HoldsB w2 B (bl s)) => conv_holds _ B cap (11 + n) _ hll (hB2.set p hp1 ((bl s)[p] ^^^ c)))
        generalize (bl s).set p ((bl s)[p] ^^^ c) = l2 at *
        simp only [UInt8.toNat_xor] at HS
        go_enter Try.func8, Try.ntmps8
        go_wp2_with fail
        refine (H1.out _).mono ?_
        rintro e w1 ⟨rfl, hb1⟩
        go_wp2_with (refine step_bytes rfl _ rfl _ rfl ?_; intro w2 cap hb2 hz2 hcap hB2; obtain ⟨hx1, hx2⟩ := hB2.2 _ hp1; have hcv := HS.out _ _ cap hB2)
        · refine (HA.out _).mono ?_
          rintro e w3 ⟨rfl, hb3⟩
          go_wp2_with fail
          go_ret
          have q1 : w.heap.size ≤ w1.heap.size := by have := hb1.size; (try simp at this); omega
          refine ⟨rfl, bt ?_ hb3⟩
          iterate 1 (refine Below.setCell ?_ q1 _)
          exact bt (bt ((Below.refl _ _).alloc (Nat.le_refl _) _) hb1) hb2
        · rename_i hne _ _ _ _
          have hne2 : l2 ≠ bl s := fun h => by
            exact beq_no hne (bl_inj (by rw [bl_mk, h]))
          have hz := HR.out hne2
          refine (decode_any _ _ (by rw [size_mk]; omega)).mono ?_
          rw [bl_mk]
          have hz2' : ((decD l2).2 != 0) = true := by simpa using hz
          generalize (decD l2).2 = e2 at *
          rintro e w3 ⟨rfl, hb3⟩
          go_wp2_with fail
          refine (HA.out _).mono ?_
          rintro e w4 ⟨rfl, hb4⟩
          go_wp2_with fail
          go_ret
          have q1 : w.heap.size ≤ w1.heap.size := by have := hb1.size; (try simp at this); omega
          refine ⟨rfl, bt (bt ?_ hb3) hb4⟩
          iterate 1 (refine Below.setCell ?_ q1 _)
          exact bt (bt ((Below.refl _ _).alloc (Nat.le_refl _) _) hb1) hb2
    · have hd : decide (at' < 0) = true ∨ (decide (at' < 0) = false ∧ decide ((11 : Int) + (n : Int) ≤ at') = true) := by
        by_cases h : at' < 0
        · exact .inl (by simpa using h)
        · exact .inr ⟨by simpa using h, by simp; omega⟩
      have hd1 : ((11 : Int) + (n : Int) == 0) = false := by simp; omega
      clear hin
      rcases hd with hd | ⟨hd, hd2⟩
      · go_enter Try.func8, Try.ntmps8
        go_wp2_with fail
        refine (H1.out _).mono ?_
        rintro e w1 ⟨rfl, hb1⟩
        go_wp2_with fail
        refine (HA.out _).mono ?_
        rintro e w2 ⟨rfl, hb2⟩
        go_wp2_with fail
        go_ret
        exact ⟨rfl, bt (bt ((Below.refl _ _).alloc (Nat.le_refl _) _) hb1) hb2⟩
      · go_enter Try.func8, Try.ntmps8
        go_wp2_with fail
        refine (H1.out _).mono ?_
        rintro e w1 ⟨rfl, hb1⟩
        go_wp2_with fail
        refine (HA.out _).mono ?_
        rintro e w2 ⟨rfl, hb2⟩
        go_wp2_with fail
        go_ret
        exact ⟨rfl, bt (bt ((Below.refl _ _).alloc (Nat.le_refl _) _) hb1) hb2⟩
  · have hz2 : (check f != 0) = true := by simpa using hz
    rw [enc_bad f hz] at H1
    simp only at H1
    clear hz
    generalize check f = c at *
    go_enter Try.func8, Try.ntmps8
    go_wp2_with fail
    refine (H1.out _).mono ?_
    rintro e w1 ⟨rfl, hb1⟩
    go_wp2_with fail
    refine (HA.out _).mono ?_
    rintro e w2 ⟨rfl, hb2⟩
    go_wp2_with fail
    go_ret
    exact ⟨rfl, bt (bt ((Below.refl _ _).alloc (Nat.le_refl _) _) hb1) hb2⟩
end Go.Proofs.Ytiicjbhlcmmijaa
