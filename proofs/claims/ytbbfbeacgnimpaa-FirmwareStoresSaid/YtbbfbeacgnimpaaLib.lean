/-
  Small laws over any program: a literal byte slice turned into a string, the bytes of a number, endings.
-/
import Derived.Test.YtbbfbeacgnimpaaDig
import Derived.Laws.BytesArg
import Derived.LoopN
import Derived.Lib.Hide
import Derived.WalkSpells
import Derived.WalkLawsBesides
open Go Go.RowKit
namespace Go.Proofs.Ytbbfbeacgnimpaa
namespace Hub

theorem ret_int {k : IntKind} {a b : Int} (h : a = b) : Ending.returned (.int k a) = .returned (.int k b) := by rw [h]
theorem ret_str {a b : ByteArray} (h : a = b) : Ending.returned (.string a) = .returned (.string b) := by rw [h]
theorem ret_val {a b : Value} (h : a = b) : Ending.returned a = .returned b := by rw [h]
theorem take_bl (s : ByteArray) : (bl s).take s.size = bl s := List.take_of_length_le (by rw [size_bl]; omega)

theorem bt {w w1 w2 : World} (h : Below w.heap.size w w1) (k : Below w1.heap.size w1 w2) : Below w.heap.size w w2 := h.trans (k.mono h.size)
theorem toList_mk (l : List UInt8) : (mk l).toList = l := by rw [ByteArray.toList_eq]; rfl
theorem toList_bl (a : ByteArray) : a.toList = bl a := ByteArray.toList_eq a
theorem beq_yes {a b : ByteArray} (h : (a.toList == b.toList) = true) : a = b := bl_inj (by rw [← toList_bl, ← toList_bl]; exact eq_of_beq h)
theorem beq_no {a b : ByteArray} (h : (a.toList == b.toList) = false) : a ≠ b := fun e => by subst e; simp at h
theorem bne_yes {a b : ByteArray} (h : (!(a.toList == b.toList)) = true) : a ≠ b := beq_no (by simpa using h)
theorem bne_no {a b : ByteArray} (h : (!(a.toList == b.toList)) = false) : a = b := beq_yes (by simpa using h)
theorem beq_of_eq {a b : ByteArray} (h : a = b) : (a.toList == b.toList) = true := by rw [h]; exact beq_self_eq_true _
theorem beq_of_ne {a b : ByteArray} (h : a ≠ b) : (a.toList == b.toList) = false := by
  cases e : (a.toList == b.toList) with
  | true => exact absurd (beq_yes e) h
  | false => rfl
theorem bl_extract (s : ByteArray) (a b : Nat) : bl (s.extract a b) = ((bl s).drop a).take (b - a) := by
  conv => lhs; rw [← mk_bl s]
  unfold mk; rw [ByteArray.extract_mk]; rfl
theorem bl_take (s : ByteArray) (b : Nat) : bl (s.extract 0 b) = (bl s).take b := by rw [bl_extract]; simp
theorem bl_drop (s : ByteArray) (a : Nat) : bl (s.extract a s.size) = (bl s).drop a := by
  rw [bl_extract]; exact List.take_of_length_le (by rw [List.length_drop, size_bl]; omega)
theorem eq_mk {a : ByteArray} {l : List UInt8} (h : bl a = l) : a = mk l := by rw [← h, mk_bl]

/-- The values of a list of bytes. -/
def vals (l : List UInt8) : List Value := l.map fun b => Value.int .u8 (b.toNat : Int)

theorem bounds_u8 {n : Int} (h : (Lit.int .u8 n).wf = true) : 0 ≤ n ∧ n ≤ 255 := by simp [Lit.wf, IntKind.min, IntKind.max, IntKind.signed, IntKind.bits] at h; omega
theorem bounds_u16 {n : Int} (h : (Lit.int .u16 n).wf = true) : 0 ≤ n ∧ n ≤ 65535 := by simp [Lit.wf, IntKind.min, IntKind.max, IntKind.signed, IntKind.bits] at h; omega
theorem bounds_u32 {n : Int} (h : (Lit.int .u32 n).wf = true) : 0 ≤ n ∧ n ≤ 4294967295 := by simp [Lit.wf, IntKind.min, IntKind.max, IntKind.signed, IntKind.bits] at h; omega
theorem bounds_u64 {n : Int} (h : (Lit.int .u64 n).wf = true) : 0 ≤ n ∧ n ≤ 18446744073709551615 := by simp [Lit.wf, IntKind.min, IntKind.max, IntKind.signed, IntKind.bits] at h; omega
theorem bounds_i64 {n : Int} (h : (Lit.int .i64 n).wf = true) : -9223372036854775808 ≤ n ∧ n ≤ 9223372036854775807 := by simp [Lit.wf, IntKind.min, IntKind.max, IntKind.signed, IntKind.bits] at h; omega

section
variable {P : Program}
theorem conv_cells (src dst e : TypeId) (hs : P.underlying src = some (.slice e)) (he : P.underlying e = some (.int .u8)) (hd : P.underlying dst = some .string)
    (w : World) (b off cap : Nat) (xs : List Int) (hc : ∀ i, i < xs.length → w.cell? ⟨b, off + i, none⟩ = some (.int .u8 (xs.getD i 0))) :
    (convert src dst (.slice (some ⟨b, off, none⟩) xs.length cap)).run P w = .ok (.string (strOfNums xs)) w :=
  run_convert_bytes_arg w src e hs he b off xs.length cap xs rfl hc dst hd

theorem conv_lit1 (src dst e et : TypeId) (hs : P.underlying src = some (.slice e)) (he : P.underlying e = some (.int .u8)) (hd : P.underlying dst = some .string)
    (w : World) (n cap : Nat) (hn : n = w.heap.size) (a : Int) :
    (convert src dst (.slice (some ⟨n, 0, none⟩) 1 cap)).run P (w.alloc (.cells #[.int .u8 a] et)) = .ok (.string (strOfNums [a])) (w.alloc (.cells #[.int .u8 a] et)) := by
  subst hn
  refine conv_cells src dst e hs he hd _ _ 0 cap [a] fun q hq => ?_
  match q, hq with
  | 0, _ => simp

theorem conv_lit1d (src dst e et : TypeId) (hs : P.underlying src = some (.slice e)) (he : P.underlying e = some (.int .u8)) (hd : P.underlying dst = some .string)
    (w : World) (n cap : Nat) (hn : n = w.heap.size) (a : Int) :
    (convert src dst (.slice (some ⟨n, 0, none⟩) 1 cap)).run P ((w.alloc (.cells #[.int .u8 a] et)).drew) = .ok (.string (strOfNums [a])) ((w.alloc (.cells #[.int .u8 a] et)).drew) := by
  subst hn
  refine conv_cells src dst e hs he hd _ _ 0 cap [a] fun q hq => ?_
  match q, hq with
  | 0, _ => simp [World.cell?_drew]

theorem conv_lit2 (src dst e et : TypeId) (hs : P.underlying src = some (.slice e)) (he : P.underlying e = some (.int .u8)) (hd : P.underlying dst = some .string)
    (w : World) (n cap : Nat) (hn : n = w.heap.size) (a b : Int) :
    (convert src dst (.slice (some ⟨n, 0, none⟩) 2 cap)).run P (w.alloc (.cells #[.int .u8 a, .int .u8 b] et)) = .ok (.string (strOfNums [a, b])) (w.alloc (.cells #[.int .u8 a, .int .u8 b] et)) := by
  subst hn
  refine conv_cells src dst e hs he hd _ _ 0 cap [a, b] fun q hq => ?_
  match q, hq with
  | 0, _ => simp
  | 1, _ => simp

theorem conv_lit2d (src dst e et : TypeId) (hs : P.underlying src = some (.slice e)) (he : P.underlying e = some (.int .u8)) (hd : P.underlying dst = some .string)
    (w : World) (n cap : Nat) (hn : n = w.heap.size) (a b : Int) :
    (convert src dst (.slice (some ⟨n, 0, none⟩) 2 cap)).run P ((w.alloc (.cells #[.int .u8 a, .int .u8 b] et)).drew) = .ok (.string (strOfNums [a, b])) ((w.alloc (.cells #[.int .u8 a, .int .u8 b] et)).drew) := by
  subst hn
  refine conv_cells src dst e hs he hd _ _ 0 cap [a, b] fun q hq => ?_
  match q, hq with
  | 0, _ => simp [World.cell?_drew]
  | 1, _ => simp [World.cell?_drew]

theorem conv_lit3 (src dst e et : TypeId) (hs : P.underlying src = some (.slice e)) (he : P.underlying e = some (.int .u8)) (hd : P.underlying dst = some .string)
    (w : World) (n cap : Nat) (hn : n = w.heap.size) (a b c : Int) :
    (convert src dst (.slice (some ⟨n, 0, none⟩) 3 cap)).run P (w.alloc (.cells #[.int .u8 a, .int .u8 b, .int .u8 c] et)) = .ok (.string (strOfNums [a, b, c])) (w.alloc (.cells #[.int .u8 a, .int .u8 b, .int .u8 c] et)) := by
  subst hn
  refine conv_cells src dst e hs he hd _ _ 0 cap [a, b, c] fun q hq => ?_
  match q, hq with
  | 0, _ => simp
  | 1, _ => simp
  | 2, _ => simp

theorem conv_lit3d (src dst e et : TypeId) (hs : P.underlying src = some (.slice e)) (he : P.underlying e = some (.int .u8)) (hd : P.underlying dst = some .string)
    (w : World) (n cap : Nat) (hn : n = w.heap.size) (a b c : Int) :
    (convert src dst (.slice (some ⟨n, 0, none⟩) 3 cap)).run P ((w.alloc (.cells #[.int .u8 a, .int .u8 b, .int .u8 c] et)).drew) = .ok (.string (strOfNums [a, b, c])) ((w.alloc (.cells #[.int .u8 a, .int .u8 b, .int .u8 c] et)).drew) := by
  subst hn
  refine conv_cells src dst e hs he hd _ _ 0 cap [a, b, c] fun q hq => ?_
  match q, hq with
  | 0, _ => simp [World.cell?_drew]
  | 1, _ => simp [World.cell?_drew]
  | 2, _ => simp [World.cell?_drew]

theorem conv_lit4 (src dst e et : TypeId) (hs : P.underlying src = some (.slice e)) (he : P.underlying e = some (.int .u8)) (hd : P.underlying dst = some .string)
    (w : World) (n cap : Nat) (hn : n = w.heap.size) (a b c d : Int) :
    (convert src dst (.slice (some ⟨n, 0, none⟩) 4 cap)).run P (w.alloc (.cells #[.int .u8 a, .int .u8 b, .int .u8 c, .int .u8 d] et)) = .ok (.string (strOfNums [a, b, c, d])) (w.alloc (.cells #[.int .u8 a, .int .u8 b, .int .u8 c, .int .u8 d] et)) := by
  subst hn
  refine conv_cells src dst e hs he hd _ _ 0 cap [a, b, c, d] fun q hq => ?_
  match q, hq with
  | 0, _ => simp
  | 1, _ => simp
  | 2, _ => simp
  | 3, _ => simp

theorem conv_lit4d (src dst e et : TypeId) (hs : P.underlying src = some (.slice e)) (he : P.underlying e = some (.int .u8)) (hd : P.underlying dst = some .string)
    (w : World) (n cap : Nat) (hn : n = w.heap.size) (a b c d : Int) :
    (convert src dst (.slice (some ⟨n, 0, none⟩) 4 cap)).run P ((w.alloc (.cells #[.int .u8 a, .int .u8 b, .int .u8 c, .int .u8 d] et)).drew) = .ok (.string (strOfNums [a, b, c, d])) ((w.alloc (.cells #[.int .u8 a, .int .u8 b, .int .u8 c, .int .u8 d] et)).drew) := by
  subst hn
  refine conv_cells src dst e hs he hd _ _ 0 cap [a, b, c, d] fun q hq => ?_
  match q, hq with
  | 0, _ => simp [World.cell?_drew]
  | 1, _ => simp [World.cell?_drew]
  | 2, _ => simp [World.cell?_drew]
  | 3, _ => simp [World.cell?_drew]

theorem conv_lit5 (src dst e et : TypeId) (hs : P.underlying src = some (.slice e)) (he : P.underlying e = some (.int .u8)) (hd : P.underlying dst = some .string)
    (w : World) (n cap : Nat) (hn : n = w.heap.size) (a b c d f : Int) :
    (convert src dst (.slice (some ⟨n, 0, none⟩) 5 cap)).run P (w.alloc (.cells #[.int .u8 a, .int .u8 b, .int .u8 c, .int .u8 d, .int .u8 f] et)) = .ok (.string (strOfNums [a, b, c, d, f])) (w.alloc (.cells #[.int .u8 a, .int .u8 b, .int .u8 c, .int .u8 d, .int .u8 f] et)) := by
  subst hn
  refine conv_cells src dst e hs he hd _ _ 0 cap [a, b, c, d, f] fun q hq => ?_
  match q, hq with
  | 0, _ => simp
  | 1, _ => simp
  | 2, _ => simp
  | 3, _ => simp
  | 4, _ => simp

theorem conv_lit5d (src dst e et : TypeId) (hs : P.underlying src = some (.slice e)) (he : P.underlying e = some (.int .u8)) (hd : P.underlying dst = some .string)
    (w : World) (n cap : Nat) (hn : n = w.heap.size) (a b c d f : Int) :
    (convert src dst (.slice (some ⟨n, 0, none⟩) 5 cap)).run P ((w.alloc (.cells #[.int .u8 a, .int .u8 b, .int .u8 c, .int .u8 d, .int .u8 f] et)).drew) = .ok (.string (strOfNums [a, b, c, d, f])) ((w.alloc (.cells #[.int .u8 a, .int .u8 b, .int .u8 c, .int .u8 d, .int .u8 f] et)).drew) := by
  subst hn
  refine conv_cells src dst e hs he hd _ _ 0 cap [a, b, c, d, f] fun q hq => ?_
  match q, hq with
  | 0, _ => simp [World.cell?_drew]
  | 1, _ => simp [World.cell?_drew]
  | 2, _ => simp [World.cell?_drew]
  | 3, _ => simp [World.cell?_drew]
  | 4, _ => simp [World.cell?_drew]

theorem conv_lit8 (src dst e et : TypeId) (hs : P.underlying src = some (.slice e)) (he : P.underlying e = some (.int .u8)) (hd : P.underlying dst = some .string)
    (w : World) (n cap : Nat) (hn : n = w.heap.size) (a b c d f g h i : Int) :
    (convert src dst (.slice (some ⟨n, 0, none⟩) 8 cap)).run P (w.alloc (.cells #[.int .u8 a, .int .u8 b, .int .u8 c, .int .u8 d, .int .u8 f, .int .u8 g, .int .u8 h, .int .u8 i] et)) = .ok (.string (strOfNums [a, b, c, d, f, g, h, i])) (w.alloc (.cells #[.int .u8 a, .int .u8 b, .int .u8 c, .int .u8 d, .int .u8 f, .int .u8 g, .int .u8 h, .int .u8 i] et)) := by
  subst hn
  refine conv_cells src dst e hs he hd _ _ 0 cap [a, b, c, d, f, g, h, i] fun q hq => ?_
  match q, hq with
  | 0, _ => simp
  | 1, _ => simp
  | 2, _ => simp
  | 3, _ => simp
  | 4, _ => simp
  | 5, _ => simp
  | 6, _ => simp
  | 7, _ => simp

theorem conv_lit8d (src dst e et : TypeId) (hs : P.underlying src = some (.slice e)) (he : P.underlying e = some (.int .u8)) (hd : P.underlying dst = some .string)
    (w : World) (n cap : Nat) (hn : n = w.heap.size) (a b c d f g h i : Int) :
    (convert src dst (.slice (some ⟨n, 0, none⟩) 8 cap)).run P ((w.alloc (.cells #[.int .u8 a, .int .u8 b, .int .u8 c, .int .u8 d, .int .u8 f, .int .u8 g, .int .u8 h, .int .u8 i] et)).drew) = .ok (.string (strOfNums [a, b, c, d, f, g, h, i])) ((w.alloc (.cells #[.int .u8 a, .int .u8 b, .int .u8 c, .int .u8 d, .int .u8 f, .int .u8 g, .int .u8 h, .int .u8 i] et)).drew) := by
  subst hn
  refine conv_cells src dst e hs he hd _ _ 0 cap [a, b, c, d, f, g, h, i] fun q hq => ?_
  match q, hq with
  | 0, _ => simp [World.cell?_drew]
  | 1, _ => simp [World.cell?_drew]
  | 2, _ => simp [World.cell?_drew]
  | 3, _ => simp [World.cell?_drew]
  | 4, _ => simp [World.cell?_drew]
  | 5, _ => simp [World.cell?_drew]
  | 6, _ => simp [World.cell?_drew]
  | 7, _ => simp [World.cell?_drew]

end

theorem byte_int (n : Int) (k : Nat) (h0 : 0 ≤ n) : UInt8.ofNat (n / (256 ^ k : Nat) % 256).toNat = byteAt n.toNat k := by
  obtain ⟨m, rfl⟩ := Int.eq_ofNat_of_zero_le h0
  have e : ((m : Int) / (256 ^ k : Nat) % 256).toNat = m / 256 ^ k % 256 := by
    rw [← Int.natCast_ediv]; omega
  rw [e, byteAt, Int.toNat_natCast]
  apply UInt8.toNat_inj.1
  simp
theorem byteAt_toNat (m k : Nat) : (byteAt m k).toNat = m / 256 ^ k % 256 := by unfold byteAt; simp
theorem byteAt_int (n : Int) (k : Nat) (h0 : 0 ≤ n) : ((byteAt n.toNat k).toNat : Int) = n / (256 ^ k : Nat) % 256 := by
  obtain ⟨m, rfl⟩ := Int.eq_ofNat_of_zero_le h0
  rw [byteAt_toNat, Int.toNat_natCast, ← Int.natCast_ediv]; omega
theorem strOfNums_mk (xs : List Int) : strOfNums xs = mk (xs.map fun n => UInt8.ofNat n.toNat) := rfl

/-- Block B holds the bytes l in its first cells, and these may be written. -/
def HoldsB (w : World) (B : Nat) (l : List UInt8) : Prop := B < w.heap.size ∧ ∀ j (hj : j < l.length), w.cell? ⟨B, j, none⟩ = some (.int .u8 (l[j].toNat : Int)) ∧ w.frozen? ⟨B, j, none⟩ = false
theorem HoldsB.below {w w' : World} {B : Nat} {l : List UInt8} (h : HoldsB w B l) {N : Nat} (hb : Below N w w') (hN : B < N) : HoldsB w' B l :=
  ⟨Nat.lt_of_lt_of_le h.1 hb.size, fun j hj => ⟨by rw [hb.cell (p := ⟨B, j, none⟩) hN]; exact (h.2 j hj).1, by rw [hb.frozen (p := ⟨B, j, none⟩) hN]; exact (h.2 j hj).2⟩⟩
theorem HoldsB.drew {w : World} {B : Nat} {l : List UInt8} (h : HoldsB w B l) : HoldsB w.drew B l := h
theorem HoldsB.set {w : World} {B : Nat} {l : List UInt8} (h : HoldsB w B l) (i : Nat) (_hi : i < l.length) (c : UInt8) : HoldsB (w.setCell ⟨B, i, none⟩ (.int .u8 (c.toNat : Int))) B (l.set i c) := by
  refine ⟨by simpa [World.setCell] using h.1, fun j hj => ?_⟩
  have hj' : j < l.length := by simpa using hj
  obtain ⟨h1, h2⟩ := h.2 j hj'
  refine ⟨?_, by rw [World.frozen?_setCell]; exact h2⟩
  by_cases e : i = j
  · subst e
    rw [World.cell?_setCell_same _ _ _ h1]
    simp
  · rw [World.cell?_setCell_other _ _ _ _ (by simp [e])]
    rw [h1]
    simp [e]

section
variable {P : Program}
theorem add_plain (B j : Nat) : (⟨B, 0, none⟩ : Addr).add j = ⟨B, j, none⟩ := by unfold Addr.add; split <;> simp_all
/-- The step '[]byte(s)'. -/
theorem wpList_bytes {w : World} {ops : Array Oper} {rest : List Oper} {o : Oper} {a : Act} {Q : Exit → Act → World → Prop} (hgd : o.guard = none) (x : Operand) (src dst e : TypeId)
    (ho : o.op = .convert src dst x) (hs : P.underlying src = some .string) (hd : P.underlying dst = some (.slice e)) (he : P.underlying e = some (.int .u8)) (s : ByteArray) (hx : a.eval x = .string s)
    (h : ∀ w1 cap, Below w.heap.size w w1 → w1.heap.size = w.heap.size + 1 → s.size ≤ cap → HoldsB w1 w.heap.size (bl s) → wpList P ops Q rest (a.put o.dst (.slice (some ⟨w.heap.size, 0, none⟩) s.size cap)) w1) : wpList P ops Q (o :: rest) a w := by
  refine wpList_plain hgd fun K hK => ?_
  have hr := run_bytes_of_string (P := P) w src dst e s hs hd he
  have hge := grownCap_ge w s.size 0 e
  unfold Oper.wp execOp
  simp only [ho, Sem.run_bind, Sem.run_pure, hx, hr, Result.andThen_ok]
  refine hK _ _ (h _ _ (((Below.refl _ _).drew).alloc (Nat.le_refl _) _) (by simp) hge ⟨by simp, fun j hj => ⟨?_, ?_⟩⟩)
  · have hj' : j < s.data.size := by rw [size_bl] at hj; exact hj
    have := World.cell?_alloc_mark w.drew (bytesRow s (grownCap w s.size 0 e)) e ((bytesRow s (grownCap w s.size 0 e)).size, (bytesRow s (grownCap w s.size 0 e)).size + 1) j
    rw [show w.drew.heap.size = w.heap.size from rfl] at this
    rw [this, bytesRow_at s _ j hj']; rfl
  · have hj' : j < s.data.size := by rw [size_bl] at hj; exact hj
    have := World.frozen?_alloc_mark w.drew (bytesRow s (grownCap w s.size 0 e)) e (bytesRow s (grownCap w s.size 0 e)).size ((bytesRow s (grownCap w s.size 0 e)).size + 1) j
    rw [show w.drew.heap.size = w.heap.size from rfl] at this
    rw [this]
    have : (bytesRow s (grownCap w s.size 0 e)).size ≥ s.data.size := by simp [bytesRow]
    simp; omega

/-- The step 'string(b)' where b's cells are the bytes l. -/
theorem wpList_tostr {w : World} {ops : Array Oper} {rest : List Oper} {o : Oper} {a : Act} {Q : Exit → Act → World → Prop} (hgd : o.guard = none) (x : Operand) (src dst e : TypeId)
    (ho : o.op = .convert src dst x) (hs : P.underlying src = some (.slice e)) (he : P.underlying e = some (.int .u8)) (hd : P.underlying dst = some .string) (B cap len : Nat) (l : List UInt8)
    (hx : a.eval x = .slice (some ⟨B, 0, none⟩) len cap) (hl : l.length = len) (hc : HoldsB w B l)
    (h : wpList P ops Q rest (a.put o.dst (.string (mk l))) w) : wpList P ops Q (o :: rest) a w := by
  subst hl
  refine wpList_plain hgd fun K hK => ?_
  have hr := run_convert_bytes_back (P := P) w src dst e ⟨B, 0, none⟩ cap l hs he hd (fun j hj => by rw [add_plain]; exact (hc.2 j hj).1)
  unfold Oper.wp execOp
  simp only [ho, Sem.run_bind, Sem.run_pure, hx, hr, Result.andThen_ok]
  exact hK _ _ h
/-- The step 'make([]byte, n)'. -/
theorem wpList_makeB {w : World} {ops : Array Oper} {rest : List Oper} {o : Oper} {a : Act} {Q : Exit → Act → World → Prop}
    (hg : o.guard = none) (l c : Operand) (t : TypeId) (hop : o.op = Op.makeSlice t l c) (e : TypeId) (h1 : P.underlying t = some (.slice e))
    (hi : (P.info? e).map (fun i => (i.zero, i.size, i.bytes)) = some (some (.int .u8 0), 1, 1))
    (n : Nat) (hl : a.eval l = .int .i64 (n : Int)) (hc : a.eval c = .int .i64 (n : Int)) (b2 : n ≤ 281474976710656)
    (h : ∀ w1, Below w.heap.size w w1 → HoldsB w1 w.heap.size (List.replicate n 0) → wpList P ops Q rest (a.put o.dst (.slice (some ⟨w.heap.size, 0, none⟩) n n)) w1) :
    wpList P ops Q (o :: rest) a w := by
  obtain ⟨i, h2, hz0, hz1, hz2⟩ := info_parts hi
  refine wpList_make_full w hg l c t hop w.heap.size e i (.int .u8 0) 1 h1 h2 hz0 hz1 .i64 .i64 _ _ n hl hc rfl rfl (by rw [hz2]; omega) (by unfold maxLen; omega) (Nat.le_refl _) fun w1 hown hgr => ?_
  have hcells : (Value.int .u8 0).cells = #[.int .u8 0] := rfl
  rw [hcells, Nat.mul_one, toList_madeCells_one] at hown
  refine h w1 ((Below.refl _ _).grown hgr (Nat.le_refl _) (by intro k hk; cases hk)) ⟨(hown.lt _ rfl).2, fun j hj => ?_⟩
  have hj' : j < n := by simpa using hj
  refine ⟨?_, hown.frozenAt j⟩
  rw [hown.cellAt j (by omega)]
  simp [hj']

theorem run_min_int4 (w : World) (ts : Array TypeId) (t : TypeId) (k k' k'' k3 : IntKind) (x y z u : Int) (n : Int) (hn : n = min (min (min x y) z) u) : (Builtin.min_ ts t #[.int k x, .int k' y, .int k'' z, .int k3 u]).run P w = .ok (.int k n) w := by
  have e : ∀ p q : Int, (if q < p then q else p) = min p q := by intro p q; rw [Int.min_def]; split <;> split <;> omega
  subst hn
  simp [Builtin.min_, Builtin.min2, e]
end
end Hub
end Go.Proofs.Ytbbfbeacgnimpaa
