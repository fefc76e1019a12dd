/-
  The plain laws of the redundancy checks: linearity, and what a burst does; no program in sight.
-/
import Derived.Test.YtiicjbhlcmmijaaDig
namespace Go.Proofs.Ytiicjbhlcmmijaa
namespace Hub

theorem xor_swap {n : Nat} (a b c d : BitVec n) : (a ^^^ b) ^^^ (c ^^^ d) = (a ^^^ c) ^^^ (b ^^^ d) := by
  rw [BitVec.xor_assoc, BitVec.xor_assoc, ← BitVec.xor_assoc b c d, BitVec.xor_comm b c, BitVec.xor_assoc]
theorem step16_eq (r : BitVec 16) : step16 r = (r <<< 1) ^^^ (if r.msb then BitVec.ofNat 16 4129 else 0) := by
  unfold step16
  by_cases h : 32768 ≤ r.toNat
  · rw [if_pos h, if_pos (by rw [BitVec.msb_eq_decide]; simpa using h)]
  · rw [if_neg h, if_neg (by rw [BitVec.msb_eq_decide]; simpa using h)]; simp
theorem step16_xor (x y : BitVec 16) : step16 (x ^^^ y) = step16 x ^^^ step16 y := by
  rw [step16_eq, step16_eq x, step16_eq y, xor_swap, ← BitVec.shiftLeft_xor_distrib, BitVec.msb_xor]
  cases x.msb <;> cases y.msb <;> simp
theorem step32_eq (r : BitVec 32) : step32 r = (r >>> 1) ^^^ (if r.getLsbD 0 then BitVec.ofNat 32 3988292384 else 0) := by
  unfold step32
  have e : r.getLsbD 0 = decide (r.toNat % 2 = 1) := by rw [BitVec.getLsbD, Nat.testBit_zero]
  by_cases h : r.toNat % 2 = 1
  · rw [if_pos h, if_pos (by rw [e]; simpa using h)]
  · rw [if_neg h, if_neg (by rw [e]; simpa using h)]; simp
theorem step32_xor (x y : BitVec 32) : step32 (x ^^^ y) = step32 x ^^^ step32 y := by
  rw [step32_eq, step32_eq x, step32_eq y, xor_swap, ← BitVec.ushiftRight_xor_distrib, BitVec.getLsbD_xor]
  cases x.getLsbD 0 <;> cases y.getLsbD 0 <;> simp
theorem iter_xor {n : Nat} (f : BitVec n → BitVec n) (h : ∀ x y, f (x ^^^ y) = f x ^^^ f y) : ∀ k x y, iter f k (x ^^^ y) = iter f k x ^^^ iter f k y
  | 0, _, _ => rfl
  | k + 1, x, y => by unfold iter; rw [iter_xor f h k x y, h]
theorem zero_of_xor {n : Nat} {a b : BitVec n} (h : a ^^^ b = 0) : a = b := by
  have := congrArg (· ^^^ b) h
  simpa [BitVec.xor_assoc] using this
theorem step16_zero (x : BitVec 16) (h : step16 x = 0) : x = 0 := by
  rw [step16_eq] at h
  have hx := x.isLt
  cases hm : x.msb with
  | true =>
    rw [hm, if_pos rfl] at h
    have := congrArg (fun b => BitVec.getLsbD b 0) h
    simp at this
  | false =>
    rw [hm, if_neg (by simp)] at h
    have h2 := congrArg BitVec.toNat h
    rw [BitVec.msb_eq_decide] at hm
    simp [BitVec.toNat_shiftLeft, Nat.shiftLeft_eq] at h2 hm
    apply BitVec.eq_of_toNat_eq
    simp; omega
theorem step32_zero (x : BitVec 32) (h : step32 x = 0) : x = 0 := by
  rw [step32_eq] at h
  have hx := x.isLt
  cases hm : x.getLsbD 0 with
  | true =>
    rw [hm, if_pos rfl] at h
    have := congrArg (fun b => BitVec.getLsbD b 31) h
    simp at this
  | false =>
    rw [hm, if_neg (by simp)] at h
    have h2 := congrArg BitVec.toNat h
    have e : x.getLsbD 0 = decide (x.toNat % 2 = 1) := by rw [BitVec.getLsbD, Nat.testBit_zero]
    rw [e] at hm
    simp [BitVec.toNat_ushiftRight, Nat.shiftRight_eq_div_pow] at h2 hm
    apply BitVec.eq_of_toNat_eq
    simp; omega
theorem iter_inj {n : Nat} (f : BitVec n → BitVec n) (h : ∀ x y, f (x ^^^ y) = f x ^^^ f y) (z : ∀ x, f x = 0 → x = 0) : ∀ k x y, iter f k x = iter f k y → x = y
  | 0, _, _, e => e
  | k + 1, x, y, e => by
    refine iter_inj f h z k x y ?_
    have : f (iter f k x ^^^ iter f k y) = 0 := by
      rw [h]; unfold iter at e; rw [e]; simp
    exact zero_of_xor (z _ this)
theorem ofNat16_xor (a b : UInt8) : BitVec.ofNat 16 (a ^^^ b).toNat = BitVec.ofNat 16 a.toNat ^^^ BitVec.ofNat 16 b.toNat := by
  have ha := a.toNat_lt
  have hb := b.toNat_lt
  have hx : a.toNat ^^^ b.toNat < 2 ^ 8 := Nat.xor_lt_two_pow ha hb
  apply BitVec.eq_of_toNat_eq
  rw [BitVec.toNat_xor, BitVec.toNat_ofNat, BitVec.toNat_ofNat, BitVec.toNat_ofNat, UInt8.toNat_xor, Nat.mod_eq_of_lt (by omega), Nat.mod_eq_of_lt (by omega), Nat.mod_eq_of_lt (by omega)]
theorem ofNat32_xor (a b : UInt8) : BitVec.ofNat 32 (a ^^^ b).toNat = BitVec.ofNat 32 a.toNat ^^^ BitVec.ofNat 32 b.toNat := by
  have ha := a.toNat_lt
  have hb := b.toNat_lt
  have hx : a.toNat ^^^ b.toNat < 2 ^ 8 := Nat.xor_lt_two_pow ha hb
  apply BitVec.eq_of_toNat_eq
  rw [BitVec.toNat_xor, BitVec.toNat_ofNat, BitVec.toNat_ofNat, BitVec.toNat_ofNat, UInt8.toNat_xor, Nat.mod_eq_of_lt (by omega), Nat.mod_eq_of_lt (by omega), Nat.mod_eq_of_lt (by omega)]
theorem byte16_xor (r q : BitVec 16) (a b : UInt8) : byte16 (r ^^^ q) (a ^^^ b) = byte16 r a ^^^ byte16 q b := by
  unfold byte16
  rw [ofNat16_xor, BitVec.shiftLeft_xor_distrib, xor_swap, iter_xor _ step16_xor]
theorem byte32_xor (r q : BitVec 32) (a b : UInt8) : byte32 (r ^^^ q) (a ^^^ b) = byte32 r a ^^^ byte32 q b := by
  unfold byte32
  rw [ofNat32_xor, xor_swap, iter_xor _ step32_xor]
theorem fold_xor {n : Nat} (f : BitVec n → UInt8 → BitVec n) (h : ∀ r q a b, f (r ^^^ q) (a ^^^ b) = f r a ^^^ f q b) : ∀ (l m : List UInt8) (r q : BitVec n), l.length = m.length →
    (List.zipWith (· ^^^ ·) l m).foldl f (r ^^^ q) = l.foldl f r ^^^ m.foldl f q
  | [], [], _, _, _ => rfl
  | a :: l, b :: m, r, q, e => by
    simp only [List.zipWith_cons_cons, List.foldl_cons, h]
    exact fold_xor f h l m _ _ (by simpa using e)
theorem byte16_inj (r q : BitVec 16) (c : UInt8) (h : byte16 r c = byte16 q c) : r = q := by
  have := iter_inj step16 step16_xor step16_zero 8 _ _ h
  have := congrArg (· ^^^ (BitVec.ofNat 16 c.toNat <<< 8)) this
  simpa [BitVec.xor_assoc] using this
theorem byte32_inj (r q : BitVec 32) (c : UInt8) (h : byte32 r c = byte32 q c) : r = q := by
  have := iter_inj step32 step32_xor step32_zero 8 _ _ h
  have := congrArg (· ^^^ BitVec.ofNat 32 c.toNat) this
  simpa [BitVec.xor_assoc] using this
theorem fold_inj {n : Nat} (f : BitVec n → UInt8 → BitVec n) (h : ∀ r q c, f r c = f q c → r = q) : ∀ (l : List UInt8) (r q : BitVec n), l.foldl f r = l.foldl f q → r = q
  | [], _, _, e => e
  | c :: l, r, q, e => h r q c (fold_inj f h l _ _ e)

/-- Three strings. -/
def xor3 (a b c : List UInt8) : List UInt8 := List.zipWith (· ^^^ ·) (List.zipWith (· ^^^ ·) a b) c
theorem crc16_linear (a b c : List UInt8) (h : a.length = b.length) (k : b.length = c.length) : crc16 (xor3 a b c) = crc16 a ^^^ crc16 b ^^^ crc16 c := by
  unfold crc16 xor3
  have e : BitVec.ofNat 16 65535 = (BitVec.ofNat 16 65535 ^^^ BitVec.ofNat 16 65535) ^^^ BitVec.ofNat 16 65535 := by simp
  conv => lhs; rw [e]
  rw [fold_xor byte16 byte16_xor _ _ _ _ (by simp; omega), fold_xor byte16 byte16_xor _ _ _ _ h]
theorem reg32_linear (a b c : List UInt8) (h : a.length = b.length) (k : b.length = c.length) : reg32 (xor3 a b c) = reg32 a ^^^ reg32 b ^^^ reg32 c := by
  unfold reg32 xor3
  have e : BitVec.ofNat 32 4294967295 = (BitVec.ofNat 32 4294967295 ^^^ BitVec.ofNat 32 4294967295) ^^^ BitVec.ofNat 32 4294967295 := by simp
  conv => lhs; rw [e]
  rw [fold_xor byte32 byte32_xor _ _ _ _ (by simp; omega), fold_xor byte32 byte32_xor _ _ _ _ h]
theorem not_eq_xor {n : Nat} (x : BitVec n) : ~~~ x = x ^^^ BitVec.allOnes n := by rw [BitVec.xor_comm, BitVec.allOnes_xor]
theorem crc32_linear (a b c : List UInt8) (h : a.length = b.length) (k : b.length = c.length) : crc32 (xor3 a b c) = crc32 a ^^^ crc32 b ^^^ crc32 c := by
  unfold crc32
  rw [reg32_linear a b c h k, not_eq_xor, not_eq_xor, not_eq_xor, not_eq_xor, xor_swap (reg32 a)]
  simp [BitVec.xor_assoc]

/-! ### Bursts -/
theorem low16 : ∀ n, n < 256 → (iter step16 8 (BitVec.ofNat 16 n <<< 8)).toNat % 256 = 0 → n = 0 := by decide +kernel
theorem iter_zero {n : Nat} (f : BitVec n → BitVec n) (h : f 0 = 0) : ∀ k, iter f k 0 = 0
  | 0 => rfl
  | k + 1 => by unfold iter; rw [iter_zero f h k, h]
theorem byte16_zero : byte16 0 0 = 0 := by decide +kernel
theorem byte32_zero : byte32 0 0 = 0 := by decide +kernel
theorem zx {n : Nat} (x : BitVec n) : (0 : BitVec n) ^^^ x = x := by simp
theorem xz {n : Nat} (x : BitVec n) : x ^^^ (0 : BitVec n) = x := by simp
theorem getD_get {l : List UInt8} {i : Nat} (h : i < l.length) : l.getD i 0 = l[i] := by simp [List.getD, List.getElem?_eq_getElem h]
theorem zero_u8 {a : UInt8} (h : a.toNat = 0) : a = 0 := by apply UInt8.toNat_inj.1; simpa using h
theorem byte16_z (c : UInt8) (h : byte16 0 c = 0) : c = 0 := by
  have := iter_inj step16 step16_xor step16_zero 8 ((0 : BitVec 16) ^^^ (BitVec.ofNat 16 c.toNat <<< 8)) 0 (by rw [iter_zero step16 (by decide +kernel)]; exact h)
  have h2 := congrArg BitVec.toNat this
  have hc := c.toNat_lt
  rw [zx, shl8_toNat] at h2
  exact zero_u8 (by simp at h2; omega)
theorem pair16 (a b : UInt8) (h : byte16 (byte16 0 a) b = 0) : a = 0 ∧ b = 0 := by
  have h1 := iter_inj step16 step16_xor step16_zero 8 (byte16 0 a ^^^ (BitVec.ofNat 16 b.toNat <<< 8)) 0 (by rw [iter_zero step16 (by decide +kernel)]; exact h)
  have h2 := zero_of_xor h1
  have h3 := congrArg BitVec.toNat h2
  rw [shl8_toNat] at h3
  have ha : a = 0 := zero_u8 (low16 a.toNat a.toNat_lt (by
    have : byte16 0 a = iter step16 8 (BitVec.ofNat 16 a.toNat <<< 8) := by unfold byte16; rw [zx]
    rw [← this, h3]; omega))
  subst ha
  rw [byte16_zero] at h
  exact ⟨rfl, byte16_z b h⟩
theorem shift32 : ∀ n, n < 256 → iter step32 8 (BitVec.ofNat 32 n <<< 8) = BitVec.ofNat 32 n ∧ iter step32 8 (BitVec.ofNat 32 n <<< 16) = BitVec.ofNat 32 n <<< 8 ∧ iter step32 8 (BitVec.ofNat 32 n <<< 24) = BitVec.ofNat 32 n <<< 16 := by decide +kernel
theorem word32 (r : BitVec 32) (a b c d : Nat) (hb : b < 256) (hc : c < 256) (hd : d < 256) :
    iter step32 8 (iter step32 8 (iter step32 8 (iter step32 8 (r ^^^ BitVec.ofNat 32 a) ^^^ BitVec.ofNat 32 b) ^^^ BitVec.ofNat 32 c) ^^^ BitVec.ofNat 32 d) =
    iter step32 8 (iter step32 8 (iter step32 8 (iter step32 8 (r ^^^ BitVec.ofNat 32 a ^^^ (BitVec.ofNat 32 b <<< 8) ^^^ (BitVec.ofNat 32 c <<< 16) ^^^ (BitVec.ofNat 32 d <<< 24))))) := by
  have hl := iter_xor step32 step32_xor 8
  simp only [hl, (shift32 b hb).1, (shift32 c hc).1, (shift32 c hc).2.1, (shift32 d hd).1, (shift32 d hd).2.1, (shift32 d hd).2.2]
theorem quad32 (a b c d : UInt8) (h : byte32 (byte32 (byte32 (byte32 0 a) b) c) d = 0) : a = 0 ∧ b = 0 ∧ c = 0 ∧ d = 0 := by
  have ha := a.toNat_lt
  have hb := b.toNat_lt
  have hc := c.toNat_lt
  have hd := d.toNat_lt
  unfold byte32 at h
  rw [word32 0 a.toNat b.toNat c.toNat d.toNat hb hc hd] at h
  have z := iter_zero step32 (by decide +kernel) 8
  have i := iter_inj step32 step32_xor step32_zero 8
  have h1 := i _ _ (h.trans z.symm)
  have h2 := i _ _ (h1.trans z.symm)
  have h3 := i _ _ (h2.trans z.symm)
  have h4 := i _ _ (h3.trans z.symm)
  rw [zx] at h4
  have h5 := zero_of_xor h4
  have e5 := congrArg BitVec.toNat h5
  have e6 : (BitVec.ofNat 32 d.toNat <<< 24).toNat = d.toNat * 16777216 := by rw [BitVec.toNat_shiftLeft, BitVec.toNat_ofNat, Nat.shiftLeft_eq]; omega
  have e7 : (BitVec.ofNat 32 c.toNat <<< 16).toNat = c.toNat * 65536 := by rw [BitVec.toNat_shiftLeft, BitVec.toNat_ofNat, Nat.shiftLeft_eq]; omega
  have e8 : (BitVec.ofNat 32 b.toNat <<< 8).toNat = b.toNat * 256 := by rw [BitVec.toNat_shiftLeft, BitVec.toNat_ofNat, Nat.shiftLeft_eq]; omega
  have e9 : (BitVec.ofNat 32 a.toNat).toNat = a.toNat := of32_toNat a
  rw [e6, BitVec.toNat_xor, BitVec.toNat_xor, e7, e8, e9] at e5
  have hx1 : a.toNat ^^^ b.toNat * 256 < 2 ^ 16 := Nat.xor_lt_two_pow (by omega) (by omega)
  have hx2 : a.toNat ^^^ b.toNat * 256 ^^^ c.toNat * 65536 < 2 ^ 24 := Nat.xor_lt_two_pow (by omega) (by omega)
  have hd0 : d.toNat = 0 := by omega
  rw [hd0, Nat.zero_mul] at e5
  have e10 : a.toNat ^^^ b.toNat * 256 = c.toNat * 65536 := by
    have := congrArg (· ^^^ c.toNat * 65536) e5
    simpa [Nat.xor_assoc] using this
  have hc0 : c.toNat = 0 := by omega
  rw [hc0, Nat.zero_mul] at e10
  have e11 : a.toNat = b.toNat * 256 := by
    have := congrArg (· ^^^ b.toNat * 256) e10
    simpa [Nat.xor_assoc] using this
  exact ⟨zero_u8 (by omega), zero_u8 (by omega), zero_u8 hc0, zero_u8 hd0⟩
theorem zeros_fold {n : Nat} (f : BitVec n → UInt8 → BitVec n) (z : f 0 0 = 0) : ∀ k, (List.replicate k (0 : UInt8)).foldl f 0 = 0
  | 0 => rfl
  | k + 1 => by rw [List.replicate_succ, List.foldl_cons, z]; exact zeros_fold f z k

/-- The bytes that are changed, in their places. -/
def diff (n at_ x k : Nat) : List UInt8 := (List.range n).map fun i => if at_ ≤ i ∧ i < at_ + k then byteAt x (i - at_) else 0
def bur (l : List UInt8) (at_ x : Nat) : Nat → List UInt8
  | 0 => l
  | k + 1 => (bur l at_ x k).set (at_ + k) ((bur l at_ x k).getD (at_ + k) 0 ^^^ byteAt x k)
def chg (x : Nat) : Nat → Bool
  | 0 => false
  | k + 1 => chg x k || decide (byteAt x k ≠ 0)
theorem bur_length (l : List UInt8) (at_ x : Nat) : ∀ k, (bur l at_ x k).length = l.length
  | 0 => rfl
  | k + 1 => by unfold bur; rw [List.length_set, bur_length l at_ x k]
theorem bur_eq (l : List UInt8) (at_ x : Nat) : ∀ k, at_ + k ≤ l.length → bur l at_ x k = List.zipWith (· ^^^ ·) l (diff l.length at_ x k)
  | 0, _ => by
    apply List.ext_getElem
    · simp [bur, diff]
    · intro i h1 h2; simp only [bur, diff, List.getElem_zipWith, List.getElem_map, List.getElem_range]; rw [if_neg (by omega)]; simp
  | k + 1, h => by
    have ih := bur_eq l at_ x k (by omega)
    apply List.ext_getElem
    · rw [bur_length]; simp [diff]
    · intro i h1 h2
      have hi : i < l.length := by rw [bur_length] at h1; exact h1
      have hg : (bur l at_ x k)[i]'(by rw [bur_length]; exact hi) = l[i] ^^^ (if at_ ≤ i ∧ i < at_ + k then byteAt x (i - at_) else 0) := by
        simp only [ih]; simp [diff]
      simp only [bur, List.getElem_set]
      by_cases e : at_ + k = i
      · subst e
        rw [if_pos rfl, getD_get (by rw [bur_length]; exact hi), hg, if_neg (by omega)]
        simp [diff]
      · rw [if_neg e, hg]
        simp only [diff, List.getElem_zipWith, List.getElem_map, List.getElem_range]
        congr 1
        by_cases h3 : at_ ≤ i ∧ i < at_ + k
        · rw [if_pos h3, if_pos ⟨h3.1, by omega⟩]
        · rw [if_neg h3, if_neg (by omega)]
theorem diff_eq (n at_ x k : Nat) (h : at_ + k ≤ n) : diff n at_ x k = List.replicate at_ 0 ++ ((List.range k).map (byteAt x) ++ List.replicate (n - (at_ + k)) 0) := by
  apply List.ext_getElem
  · simp [diff]; omega
  · intro i h1 h2
    simp only [diff, List.getElem_map, List.getElem_range, List.getElem_append, List.length_replicate, List.length_map, List.length_range]
    by_cases h3 : i < at_
    · rw [dif_pos h3, if_neg (by omega)]; simp
    · rw [dif_neg h3]
      by_cases h4 : i - at_ < k
      · rw [dif_pos h4, if_pos (by omega)]
      · rw [dif_neg h4, if_neg (by omega)]; simp
theorem burst16 (l : List UInt8) (at_ x : Nat) (h : at_ + 2 ≤ l.length) (hc : chg x 2 = true) : crc16 (bur l at_ x 2) ≠ crc16 l := by
  intro e
  rw [bur_eq l at_ x 2 h] at e
  have e2 : crc16 (List.zipWith (· ^^^ ·) l (diff l.length at_ x 2)) = crc16 l ^^^ (diff l.length at_ x 2).foldl byte16 0 := by
    unfold crc16
    have := fold_xor byte16 byte16_xor l (diff l.length at_ x 2) (BitVec.ofNat 16 65535) 0 (by simp [diff])
    rwa [xz] at this
  rw [e2] at e
  have e3 : (diff l.length at_ x 2).foldl byte16 0 = 0 := by
    have := congrArg (crc16 l ^^^ ·) e
    simpa [← BitVec.xor_assoc] using this
  rw [diff_eq _ _ _ _ h, List.foldl_append, zeros_fold byte16 byte16_zero, List.foldl_append] at e3
  have e4 := fold_inj byte16 byte16_inj _ _ 0 (e3.trans (zeros_fold byte16 byte16_zero _).symm)
  have e5 : List.range 2 = [0, 1] := by decide
  rw [e5, List.map_cons, List.map_cons, List.map_nil, List.foldl_cons, List.foldl_cons, List.foldl_nil] at e4
  obtain ⟨a, b⟩ := pair16 _ _ e4
  simp [chg, a, b] at hc
theorem four32 (e : List UInt8) (he : e.length ≤ 4) (h : e.foldl byte32 0 = 0) : ∀ b ∈ e, b = 0 := by
  match e, he with
  | [], _ => intro b hb; simp at hb
  | [a], _ => 
    have := quad32 a 0 0 0 (by simp only [List.foldl_cons, List.foldl_nil] at h; rw [h, byte32_zero, byte32_zero, byte32_zero])
    intro b hb; simp at hb; rw [hb]; exact this.1
  | [a, b], _ =>
    have := quad32 a b 0 0 (by simp only [List.foldl_cons, List.foldl_nil] at h; rw [h, byte32_zero, byte32_zero])
    intro c hc; simp at hc; rcases hc with rfl | rfl
    · exact this.1
    · exact this.2.1
  | [a, b, c], _ =>
    have := quad32 a b c 0 (by simp only [List.foldl_cons, List.foldl_nil] at h; rw [h, byte32_zero])
    intro d hd; simp at hd; rcases hd with rfl | rfl | rfl
    · exact this.1
    · exact this.2.1
    · exact this.2.2.1
  | [a, b, c, d], _ =>
    have := quad32 a b c d (by simpa only [List.foldl_cons, List.foldl_nil] using h)
    intro f hf; simp at hf; rcases hf with rfl | rfl | rfl | rfl
    · exact this.1
    · exact this.2.1
    · exact this.2.2.1
    · exact this.2.2.2
theorem chg_true (x : Nat) : ∀ k, chg x k = true → ∃ j, j < k ∧ byteAt x j ≠ 0
  | 0, h => by simp [chg] at h
  | k + 1, h => by
    simp only [chg, Bool.or_eq_true, decide_eq_true_eq] at h
    rcases h with h | h
    · obtain ⟨j, hj, hb⟩ := chg_true x k h
      exact ⟨j, by omega, hb⟩
    · exact ⟨k, by omega, h⟩
theorem burst32 (l : List UInt8) (at_ x k : Nat) (hk : k ≤ 4) (h : at_ + k ≤ l.length) (hc : chg x k = true) : crc32 (bur l at_ x k) ≠ crc32 l := by
  intro e
  rw [bur_eq l at_ x k h] at e
  have e0 : reg32 (List.zipWith (· ^^^ ·) l (diff l.length at_ x k)) = reg32 l := by
    have := congrArg (fun b => ~~~ b) e
    simpa [crc32] using this
  have e2 : reg32 (List.zipWith (· ^^^ ·) l (diff l.length at_ x k)) = reg32 l ^^^ (diff l.length at_ x k).foldl byte32 0 := by
    unfold reg32
    have := fold_xor byte32 byte32_xor l (diff l.length at_ x k) (BitVec.ofNat 32 4294967295) 0 (by simp [diff])
    rwa [xz] at this
  rw [e2] at e0
  have e3 : (diff l.length at_ x k).foldl byte32 0 = 0 := by
    have := congrArg (reg32 l ^^^ ·) e0
    simpa [← BitVec.xor_assoc] using this
  rw [diff_eq _ _ _ _ h, List.foldl_append, zeros_fold byte32 byte32_zero, List.foldl_append] at e3
  have e4 := fold_inj byte32 byte32_inj _ _ 0 (e3.trans (zeros_fold byte32 byte32_zero _).symm)
  have e5 := four32 _ (by simp; exact hk) e4
  obtain ⟨j, hj, hb⟩ := chg_true x k hc
  exact hb (e5 _ (List.mem_map.2 ⟨j, List.mem_range.2 hj, rfl⟩))
end Hub
end Go.Proofs.Ytiicjbhlcmmijaa
