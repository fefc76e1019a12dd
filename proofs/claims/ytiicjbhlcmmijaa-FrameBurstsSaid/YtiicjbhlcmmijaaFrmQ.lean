/-
  The plain laws of layer 9: what is encoded is decoded again, and the other way round; no program in sight.
-/
import Derived.Test.YtiicjbhlcmmijaaFrmP
import Derived.Test.YtiicjbhlcmmijaaDigP
namespace Go.Proofs.Ytiicjbhlcmmijaa
namespace Hub

theorem body_length (f : Fr) : (body f).length = 9 + f.dat.size := by
  rw [body, List.length_append, size_bl]; rfl
theorem withSum_length (l : List UInt8) : (withSum l).length = l.length + 2 := by rw [withSum, List.length_append]; rfl
theorem crc_lt (l : List UInt8) : (crc16 l).toNat < 65536 := (crc16 l).isLt
theorem at_get (l : List UInt8) (i : Nat) (h : i < l.length) : at_ l i = (l[i].toNat : Int) := by
  unfold at_; rw [List.getD_eq_getElem?_getD, List.getElem?_eq_getElem h]; rfl
theorem at_head (l m : List UInt8) (i : Nat) (h : i < l.length) : at_ (l ++ m) i = at_ l i := by
  rw [at_get _ _ h, at_get _ _ (by rw [List.length_append]; omega), List.getElem_append_left h]
theorem at_tail (l m : List UInt8) (i : Nat) (h : i < m.length) : at_ (l ++ m) (l.length + i) = at_ m i := by
  rw [at_get _ _ h, at_get _ _ (by rw [List.length_append]; omega), List.getElem_append_right (by omega)]
  simp only [Nat.add_sub_cancel_left]
theorem two_val (n : Nat) (h : n < 65536) (l : List UInt8) : at_ (l ++ two n) l.length = (n : Int) / 256 ∧ at_ (l ++ two n) (l.length + 1) = (n : Int) % 256 := by
  have h1 : (UInt8.ofNat (n / 256)).toNat = n / 256 := by simp; omega
  have h2 : (UInt8.ofNat (n % 256)).toNat = n % 256 := by simp
  have e1 := at_tail l (two n) 0 (by simp [two])
  have e2 := at_tail l (two n) 1 (by simp [two])
  rw [Nat.add_zero] at e1
  rw [e1, e2]
  constructor
  · show ((UInt8.ofNat (n / 256)).toNat : Int) = _; rw [h1]; rfl
  · show ((UInt8.ofNat (n % 256)).toNat : Int) = _; rw [h2]; rfl
theorem sum_fits (l : List UInt8) : 256 * at_ (withSum l) l.length + at_ (withSum l) (l.length + 1) = ((crc16 l).toNat : Int) := by
  have h := two_val (crc16 l).toNat (crc_lt l) l
  rw [withSum, h.1, h.2]; omega
theorem withSum_take (l : List UInt8) : (withSum l).take ((withSum l).length - 2) = l := by
  rw [withSum_length, Nat.add_sub_cancel, withSum, List.take_append_of_le_length (Nat.le_refl _), List.take_length]
/-- What is decoded of a string with a right sum. -/
theorem dec_sum (l : List UInt8) (h : 9 ≤ l.length) : decD (withSum l) = if at_ l 8 ≠ (l.length : Int) - 9 then (zeroFr, 4) else
    if check (fieldsD (withSum l)) = 0 then (fieldsD (withSum l), 0) else (zeroFr, check (fieldsD (withSum l))) := by
  have hs := sum_fits l
  have hl := withSum_length l
  unfold decD
  rw [withSum_take, hl, show l.length + 2 - 2 = l.length from rfl, show l.length + 2 - 1 = l.length + 1 from rfl, if_neg (by omega), if_neg (by rw [hs]; simp)]
  rw [show at_ (withSum l) 8 = at_ l 8 from at_head l _ 8 (by omega), show ((l.length + 2 : Nat) : Int) - 11 = (l.length : Int) - 9 from by omega]
theorem dec_four (l : List UInt8) (h : 9 ≤ l.length) (h8 : at_ l 8 ≠ (l.length : Int) - 9) : decD (withSum l) = (zeroFr, 4) := by
  rw [dec_sum l h, if_pos h8]
theorem fields_enc (f : Fr) (h : check f = 0) : fieldsD (withSum (body f)) = f := by
  obtain ⟨h1, h2, ⟨⟨r1, r1'⟩, ⟨r2, r2'⟩, r3, r4, r5, r6, r7, r8⟩, h3, _⟩ := check_zero h
  have hk1 : 0 ≤ f.kind + (if f.urg then 128 else 0) := by split <;> omega
  have hk2 : f.kind + (if f.urg then 128 else 0) ≤ 255 := by split <;> omega
  have e0 : at_ (withSum (body f)) 0 = f.kind + (if f.urg then 128 else 0) := b8_in hk1 hk2
  have e1 : at_ (withSum (body f)) 1 = f.frm := b8_in (by omega) (by omega)
  have e2 : at_ (withSum (body f)) 2 = f.to := b8_in (by omega) (by omega)
  have e3 : at_ (withSum (body f)) 3 = f.src := b8_in (by omega) (by omega)
  have e4 : at_ (withSum (body f)) 4 = f.tgt := b8_in (by omega) (by omega)
  have e5 : at_ (withSum (body f)) 5 = f.seq / 256 := b8_in (by omega) (by omega)
  have e6 : at_ (withSum (body f)) 6 = f.seq % 256 := b8_in (by omega) (by omega)
  have e7 : at_ (withSum (body f)) 7 = f.hops := b8_in (by omega) (by omega)
  have e8 : ((withSum (body f)).drop 9).take ((withSum (body f)).length - 11) = bl f.dat := by
    rw [withSum_length, body_length]
    have : (withSum (body f)).drop 9 = bl f.dat ++ two (crc16 (body f)).toNat := by
      rw [withSum, body, List.append_assoc]; rfl
    rw [this, show 9 + f.dat.size + 2 - 11 = f.dat.size from by omega, ← size_bl, List.take_append_of_le_length (Nat.le_refl _), List.take_length]
  have e9 : (f.kind + (if f.urg then 128 else 0)) % 128 = f.kind := by split <;> omega
  have e10 : decide (128 ≤ f.kind + (if f.urg then 128 else 0)) = f.urg := by
    cases hu : f.urg
    · simp; omega
    · simp; omega
  have e11 : 256 * (f.seq / 256) + f.seq % 256 = f.seq := by omega
  unfold fieldsD
  rw [e0, e1, e2, e3, e4, e5, e6, e7, e8, e9, e10, e11, mk_bl]
theorem at8_enc (f : Fr) (h : check f = 0) : at_ (body f) 8 = (f.dat.size : Int) := by
  have h3 := (check_zero h).2.2.2.1
  exact b8_in (by omega) (by omega)
theorem dec_enc (f : Fr) (h : check f = 0) : decD (withSum (body f)) = (f, 0) := by
  rw [dec_sum _ (by rw [body_length]; omega), at8_enc f h, body_length, if_neg (by simp; omega), fields_enc f h, if_pos h]

theorem nine (l : List UInt8) (h : 9 ≤ l.length) : ∃ b0 b1 b2 b3 b4 b5 b6 b7 b8 r, l = b0 :: b1 :: b2 :: b3 :: b4 :: b5 :: b6 :: b7 :: b8 :: r := by
  match l, h with
  | b0 :: b1 :: b2 :: b3 :: b4 :: b5 :: b6 :: b7 :: b8 :: r, _ => exact ⟨b0, b1, b2, b3, b4, b5, b6, b7, b8, r, rfl⟩
theorem b8_back (b : UInt8) (n : Int) (h : n = (b.toNat : Int)) : b8 n = b := by
  have := b.toNat_lt
  apply UInt8.toNat_inj.1
  have := b8_in (n := n) (by omega) (by omega)
  omega
theorem body_fields (l : List UInt8) (h : 11 ≤ l.length) (h8 : at_ l 8 = (l.length : Int) - 11) : body (fieldsD l) = l.take (l.length - 2) := by
  obtain ⟨b0, b1, b2, b3, b4, b5, b6, b7, b8', r, rfl⟩ := nine l (by omega)
  simp only [List.length_cons] at h h8
  have hr : 2 ≤ r.length := by omega
  have ht : (b0 :: b1 :: b2 :: b3 :: b4 :: b5 :: b6 :: b7 :: b8' :: r).take ((b0 :: b1 :: b2 :: b3 :: b4 :: b5 :: b6 :: b7 :: b8' :: r).length - 2) = [b0, b1, b2, b3, b4, b5, b6, b7, b8'] ++ r.take (r.length - 2) := by
    rw [show (b0 :: b1 :: b2 :: b3 :: b4 :: b5 :: b6 :: b7 :: b8' :: r).length - 2 = (r.length - 2) + 9 from by simp only [List.length_cons]; omega]
    rfl
  have hd : bl (fieldsD (b0 :: b1 :: b2 :: b3 :: b4 :: b5 :: b6 :: b7 :: b8' :: r)).dat = r.take (r.length - 2) := by
    show bl (mk _) = _
    rw [bl_mk, show (b0 :: b1 :: b2 :: b3 :: b4 :: b5 :: b6 :: b7 :: b8' :: r).length - 11 = r.length - 2 from by simp only [List.length_cons]; omega]
    rfl
  have hn : ((fieldsD (b0 :: b1 :: b2 :: b3 :: b4 :: b5 :: b6 :: b7 :: b8' :: r)).dat.size : Int) = (b8'.toNat : Int) := by
    rw [← size_bl, hd, List.length_take]
    have : at_ (b0 :: b1 :: b2 :: b3 :: b4 :: b5 :: b6 :: b7 :: b8' :: r) 8 = (b8'.toNat : Int) := rfl
    omega
  rw [ht, body, hd]
  congr 1
  have q0 := b0.toNat_lt
  have q5 := b5.toNat_lt
  have q6 := b6.toNat_lt
  have z0 : (b0.toNat : Int) % 128 + (if decide (128 ≤ (b0.toNat : Int)) = true then 128 else 0) = (b0.toNat : Int) := by
    simp only [decide_eq_true_eq]; split <;> omega
  unfold hdr
  rw [hn]
  simp only [List.cons.injEq, and_true]
  exact ⟨b8_back b0 _ z0, b8_back b1 _ rfl, b8_back b2 _ rfl, b8_back b3 _ rfl, b8_back b4 _ rfl, b8_back b5 _ (by show (256 * (b5.toNat : Int) + (b6.toNat : Int)) / 256 = _; omega), b8_back b6 _ (by show (256 * (b5.toNat : Int) + (b6.toNat : Int)) % 256 = _; omega), b8_back b7 _ rfl, b8_back b8' _ rfl⟩
theorem last_two (l : List UInt8) (h : 2 ≤ l.length) (n : Nat) (_hn : n < 65536) (h2 : (n : Int) = 256 * at_ l (l.length - 2) + at_ l (l.length - 1)) : l = l.take (l.length - 2) ++ two n := by
  have hb1 := at_bounds l (l.length - 2)
  have hb2 := at_bounds l (l.length - 1)
  have e1 : (l[l.length - 2]'(by omega)) = UInt8.ofNat (n / 256) := by
    apply UInt8.toNat_inj.1
    have : at_ l (l.length - 2) = ((l[l.length - 2]'(by omega)).toNat : Int) := at_get _ _ (by omega)
    simp; omega
  have e2 : (l[l.length - 1]'(by omega)) = UInt8.ofNat (n % 256) := by
    apply UInt8.toNat_inj.1
    have : at_ l (l.length - 1) = ((l[l.length - 1]'(by omega)).toNat : Int) := at_get _ _ (by omega)
    simp; omega
  have hd : l.drop (l.length - 2) = two n := by
    rw [List.drop_eq_getElem_cons (by omega), e1, List.drop_eq_getElem_cons (by omega)]
    have : l.length - 2 + 1 = l.length - 1 := by omega
    simp only [this, e2]
    rw [List.drop_eq_nil_of_le (by omega)]; rfl
  rw [← hd, List.take_append_drop]
/-- What is decoded without an error is what was encoded. -/
theorem enc_dec (l : List UInt8) (h : (decD l).2 = 0) : (decD l).1 = fieldsD l ∧ check (fieldsD l) = 0 ∧ withSum (body (fieldsD l)) = l := by
  unfold decD at h ⊢
  by_cases h1 : l.length < 11
  · rw [if_pos h1] at h; exact absurd h (by decide)
  · rw [if_neg h1] at h ⊢
    by_cases h2 : ((crc16 (l.take (l.length - 2))).toNat : Int) ≠ 256 * at_ l (l.length - 2) + at_ l (l.length - 1)
    · rw [if_pos h2] at h; exact absurd h (by decide)
    · rw [if_neg h2] at h ⊢
      by_cases h3 : at_ l 8 ≠ (l.length : Int) - 11
      · rw [if_pos h3] at h; exact absurd h (by decide)
      · rw [if_neg h3] at h ⊢
        by_cases h4 : check (fieldsD l) = 0
        · rw [if_pos h4]
          refine ⟨rfl, h4, ?_⟩
          rw [withSum, body_fields l (by omega) (by omega)]
          exact (last_two l (by omega) _ (crc_lt _) (by omega)).symm
        · rw [if_neg h4] at h; exact absurd h h4
theorem dec_fail (l : List UInt8) (h : (decD l).2 ≠ 0) : (decD l).1 = zeroFr := by
  unfold decD at h ⊢
  split
  · rfl
  · split
    · rfl
    · split
      · rfl
      · split
        · rename_i h1 h2 h3 h4; simp [h1, h2, h3, h4] at h
        · rfl

theorem split16 (a b : Nat) (hb : b < 256) : BitVec.ofNat 16 (256 * a + b) = (BitVec.ofNat 16 a <<< 8) ^^^ BitVec.ofNat 16 b := by
  apply BitVec.eq_of_getLsbD_eq
  intro i hi
  have ht := Nat.testBit_two_pow_mul_add a (i := 8) (b := b) (by omega) i
  rw [show (2 : Nat) ^ 8 = 256 from rfl] at ht
  rw [BitVec.getLsbD_xor, BitVec.getLsbD_shiftLeft, BitVec.getLsbD_ofNat, BitVec.getLsbD_ofNat, BitVec.getLsbD_ofNat, ht]
  by_cases h8 : i < 8
  · simp [h8, hi]
  · have hz : b.testBit i = false := Nat.testBit_lt_two_pow (Nat.lt_of_lt_of_le (show b < 2 ^ 8 from by omega) (Nat.pow_le_pow_right (by omega) (by omega)))
    have h9 : i - 8 < 16 := by omega
    simp [h8, hi, hz, h9]
theorem lo16 : ∀ n, n < 256 → iter step16 8 (BitVec.ofNat 16 n) = BitVec.ofNat 16 n <<< 8 := by decide +kernel
theorem iter0 : iter step16 8 (0 : BitVec 16) = 0 := by decide +kernel
theorem u8_nat (a : Nat) (h : a < 256) : (UInt8.ofNat a).toNat = a := by simp; omega
theorem pair_zero (a b : Nat) (ha : a < 256) (hb : b < 256) (r : BitVec 16) (hs : r = (BitVec.ofNat 16 a <<< 8) ^^^ BitVec.ofNat 16 b) : byte16 (byte16 r (UInt8.ofNat a)) (UInt8.ofNat b) = 0 := by
  have e1 : byte16 r (UInt8.ofNat a) = BitVec.ofNat 16 b <<< 8 := by
    unfold byte16
    rw [u8_nat a ha, hs, BitVec.xor_comm (BitVec.ofNat 16 a <<< 8), BitVec.xor_assoc, BitVec.xor_self, BitVec.xor_zero]
    exact lo16 b hb
  rw [e1]
  unfold byte16
  rw [u8_nat b hb, BitVec.xor_self]
  exact iter0
theorem split_n (r : BitVec 16) (n : Nat) (hn : r.toNat = n) : r = (BitVec.ofNat 16 (n / 256) <<< 8) ^^^ BitVec.ofNat 16 (n % 256) := by
  have h := split16 (n / 256) (n % 256) (Nat.mod_lt _ (by decide))
  rw [Nat.div_add_mod] at h
  rw [← h, ← hn, BitVec.ofNat_toNat, BitVec.setWidth_eq]
theorem two_zero (r : BitVec 16) (n : Nat) (hn : r.toNat = n) : (two n).foldl byte16 r = 0 := by
  have hr : n < 65536 := hn ▸ r.isLt
  have hs := split_n r n hn
  have h1 : n / 256 < 256 := Nat.div_lt_of_lt_mul hr
  have h2 : n % 256 < 256 := Nat.mod_lt _ (by decide)
  have := pair_zero (n / 256) (n % 256) h1 h2 r hs
  unfold two
  rw [List.foldl_cons, List.foldl_cons, List.foldl_nil]
  exact this
theorem crc_sum (l : List UInt8) : crc16 (withSum l) = 0 := by
  rw [crc16, withSum, List.foldl_append]; exact two_zero _ _ rfl
/-- Changed in one byte or two adjacent ones, an encoding is not decoded. -/
theorem burst_dec (l : List UInt8) (hl : crc16 l = 0) (at_ x : Nat) (h : at_ + 2 ≤ l.length) (hc : chg x 2 = true) : (decD (bur l at_ x 2)).2 ≠ 0 := by
  intro h0
  obtain ⟨_, _, he⟩ := enc_dec _ h0
  have h1 : crc16 (bur l at_ x 2) = 0 := by rw [← he]; exact crc_sum _
  exact burst16 l at_ x h hc (by rw [h1, hl])
end Hub
end Go.Proofs.Ytiicjbhlcmmijaa
