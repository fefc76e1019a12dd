/-
  The plain law on bursts, byte by byte; no program in sight.
-/
import Derived.Test.YtiicjbhlcmmijaaFrmQ
namespace Go.Proofs.Ytiicjbhlcmmijaa
namespace Hub

theorem u8_back (c : UInt8) (n : Nat) (h : n % 256 = c.toNat) : UInt8.ofNat n = c := by
  apply UInt8.toNat_inj.1; simp; exact h
theorem byte_lo (c d : UInt8) : byteAt (c.toNat + 256 * d.toNat) 0 = c := by
  have := c.toNat_lt
  apply UInt8.toNat_inj.1; rw [byteAt_toNat]; omega
theorem byte_hi (c d : UInt8) : byteAt (c.toNat + 256 * d.toNat) 1 = d := by
  have := c.toNat_lt
  have := d.toNat_lt
  apply UInt8.toNat_inj.1; rw [byteAt_toNat]; omega
theorem bur_two (l : List UInt8) (p : Nat) (h : p + 2 ≤ l.length) (c d : UInt8) : bur l p (c.toNat + 256 * d.toNat) 2 = (l.set p (l[p]'(by omega) ^^^ c)).set (p + 1) (l[p + 1]'(by omega) ^^^ d) := by
  have h1 : p < l.length := by omega
  have h2 : p + 1 < l.length := by omega
  have h3 : p + 1 < (l.set p (l[p] ^^^ c)).length := by rw [List.length_set]; exact h2
  have e1 : bur l p (c.toNat + 256 * d.toNat) 1 = l.set p (l[p] ^^^ c) := by
    show List.set l (p + 0) (l.getD (p + 0) 0 ^^^ byteAt _ 0) = _
    rw [byte_lo]; simp only [Nat.add_zero]; rw [getD_get h1]
  show List.set (bur l p _ 1) (p + 1) ((bur l p _ 1).getD (p + 1) 0 ^^^ byteAt _ 1) = _
  rw [e1, byte_hi, getD_get h3]
  congr 2
  exact List.getElem_set_ne (by omega) _
theorem two_dec (l : List UInt8) (hl : crc16 l = 0) (p : Nat) (h : p + 2 ≤ l.length) (c d : UInt8) (hne : (l.set p (l[p]'(by omega) ^^^ c)).set (p + 1) (l[p + 1]'(by omega) ^^^ d) ≠ l) :
    (decD ((l.set p (l[p]'(by omega) ^^^ c)).set (p + 1) (l[p + 1]'(by omega) ^^^ d))).2 ≠ 0 := by
  rw [← bur_two l p h c d] at hne ⊢
  refine burst_dec l hl p _ h ?_
  cases hc : chg (c.toNat + 256 * d.toNat) 2 with
  | true => rfl
  | false =>
    exfalso
    apply hne
    simp only [chg, byte_lo, byte_hi, Bool.false_or, Bool.or_eq_false_iff, decide_eq_false_iff_not, ne_eq, Decidable.not_not] at hc
    rw [bur_two l p h c d, hc.1, hc.2]
    simp
theorem one_dec (l : List UInt8) (hl : crc16 l = 0) (h11 : 2 ≤ l.length) (p : Nat) (h : p + 1 = l.length) (c : UInt8) (hne : l.set p (l[p]'(by omega) ^^^ c) ≠ l) : (decD (l.set p (l[p]'(by omega) ^^^ c))).2 ≠ 0 := by
  obtain ⟨q, rfl⟩ : ∃ q, p = q + 1 := ⟨p - 1, by omega⟩
  have hb := two_dec l hl q (by omega) 0 c
  simp only [UInt8.xor_zero, List.set_getElem_self] at hb
  exact hb hne
theorem enc_crc (f : Fr) : crc16 (withSum (body f)) = 0 := crc_sum _
end Hub
end Go.Proofs.Ytiicjbhlcmmijaa
