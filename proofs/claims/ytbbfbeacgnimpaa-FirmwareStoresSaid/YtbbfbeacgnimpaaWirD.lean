/-
  The walks of the reader's methods, the program's.
-/
import Derived.Test.YtbbfbeacgnimpaaWirC
import Derived.Test.YtbbfbeacgnimpaaWirB
open Go Go.RowKit Go.Proofs
namespace Go.Proofs.Ytbbfbeacgnimpaa
namespace Hub
theorem i64_compl (a : Nat) (h : a < 9223372036854775808) : bits .xor .i64 (a : Int) (-1) = -1 - (a : Int) := by
  have g : (BitVec.ofInt 64 ((a : Nat) : Int)) ^^^ BitVec.ofInt 64 (-1) = ~~~ (BitVec.ofNat 64 a) := by
    rw [BitVec.ofInt_natCast, show BitVec.ofInt 64 (-1) = BitVec.allOnes 64 from rfl, BitVec.xor_allOnes]
  show IntKind.i64.wrap (((BitVec.ofInt 64 ((a : Nat) : Int)) ^^^ BitVec.ofInt 64 (-1)).toNat : Int) = _
  rw [g, BitVec.toNat_not, BitVec.toNat_ofNat, Nat.mod_eq_of_lt (by omega), show ((2 ^ 64 - 1 - a : Nat) : Int) = 18446744073709551615 - (a : Int) from by omega]
  simp only [IntKind.wrap, IntKind.bits, IntKind.signed, Bool.true_and]
  simp; omega
theorem i64_same (a : Nat) (h : a < 9223372036854775808) : bits .xor .i64 (a : Int) 0 = (a : Int) := by
  rw [show (0 : Int) = ((0 : Nat) : Int) from rfl, i64_xor_nat _ _ h (by decide), Nat.xor_zero]
theorem unzig_prog (z : Int) (m : Nat) (h : z = m) (hm : m < 18446744073709551616) : bits BinOp.xor IntKind.i64 (wrap64 (z / 2)) (wrap64 (-wrap64 (bits BinOp.and IntKind.u64 z 1))) = unzig m := by
  subst h
  rw [show (1 : Int) = ((1 : Nat) : Int) from rfl, u64_and_nat _ _ hm (by decide), nat_mask1, show ((m : Int) / 2) = ((m / 2 : Nat) : Int) from by omega, IntWalk.wrap64_in ((m / 2 : Nat) : Int) ⟨by omega, by omega⟩, IntWalk.wrap64_in ((m % 2 : Nat) : Int) ⟨by omega, by omega⟩, IntWalk.wrap64_in _ ⟨by omega, by omega⟩]
  unfold unzig
  split
  · rename_i h1
    rw [h1, show -((1 : Nat) : Int) = -1 from rfl, i64_compl _ (by omega)]
  · have h1 : m % 2 = 0 := by omega
    rw [h1, show -((0 : Nat) : Int) = 0 from rfl, i64_same _ (by omega)]
/-- From w to w' nothing has turned of what was there but block B. -/
def Tch (B : Nat) (w w' : World) : Prop := w.grownBy w' (some B)
theorem Tch.refl (B : Nat) (w : World) : Tch B w w := ⟨rfl, rfl, rfl, Nat.le_refl _, fun _ _ _ => rfl⟩
theorem Tch.trans {B : Nat} {a b c : World} (h : Tch B a b) (k : Tch B b c) : Tch B a c :=
  ⟨k.os.trans h.os, k.tape.trans h.tape, k.output.trans h.output, Nat.le_trans h.size k.size, fun i hi hn => (k.block i (Nat.lt_of_lt_of_le hi h.size) hn).trans (h.block i hi hn)⟩
theorem Tch.setCell {B : Nat} {a w : World} (h : Tch B a w) (o : Nat) (v : Value) : Tch B a (w.setCell ⟨B, o, none⟩ v) :=
  h.trans ⟨rfl, rfl, rfl, by simp [World.setCell], fun k _ hn => Below.heap_setCell _ _ _ _ (by intro e; exact hn (by rw [e]))⟩
theorem Tch.drew {B : Nat} {a w : World} (h : Tch B a w) : Tch B a w.drew := ⟨h.os, h.tape, h.output, h.size, h.block⟩
theorem Tch.of_below {B : Nat} {w w' : World} (h : Below w.heap.size w w') : Tch B w w' := ⟨h.os, h.tape, h.output, h.size, fun k hk _ => h.block k hk⟩
theorem Tch.alloc {B : Nat} {a w : World} (h : Tch B a w) (o : Obj) : Tch B a (w.alloc o) := h.trans (Tch.of_below ((Below.refl _ _).alloc (Nat.le_refl _) _))
theorem Tch.below {B N : Nat} {w w' : World} (h : Tch B w w') (hN : N ≤ B) (hw : N ≤ w.heap.size) : Below N w w' :=
  ⟨h.os, h.tape, h.output, h.size, fun k hk => h.block k (by omega) (by intro e; cases e; omega)⟩

/-- Block B is the program's reader in state r. -/
def RdP (B : Nat) (r : Rs) (w : World) : Prop :=
  w.heap[B]? = some (.cells #[.string (mk r.rest), .int .i64 r.err, .bool true] 69 (0, 0)) ∧ r.rest.length ≤ 1099511627776
theorem RdP.lt {B : Nat} {r : Rs} {w : World} (h : RdP B r w) : B < w.heap.size := (Array.getElem?_eq_some_iff.1 h.1).1
theorem RdP.c0 {B : Nat} {r : Rs} {w : World} (h : RdP B r w) : w.cell? ⟨B, 0, none⟩ = some (.string (mk r.rest)) := by rw [Lib.cell_of_heap h.1]; rfl
theorem RdP.c1 {B : Nat} {r : Rs} {w : World} (h : RdP B r w) : w.cell? ⟨B, 1, none⟩ = some (.int .i64 r.err) := by rw [Lib.cell_of_heap h.1]; rfl
theorem RdP.c2 {B : Nat} {r : Rs} {w : World} (h : RdP B r w) : w.cell? ⟨B, 2, none⟩ = some (.bool true) := by rw [Lib.cell_of_heap h.1]; rfl
theorem RdP.f {B : Nat} {r : Rs} {w : World} (h : RdP B r w) (i : Nat) : w.frozen? ⟨B, i, none⟩ = false := Lib.frozen_of_heap h.1 i
theorem RdP.set0 {B : Nat} {r : Rs} {w : World} (h : RdP B r w) (l : List UInt8) (hl : l.length ≤ 1099511627776) : RdP B { r with rest := l } (w.setCell ⟨B, 0, none⟩ (.string (mk l))) := by
  refine ⟨?_, hl⟩
  simp [World.setCell, Array.getElem?_modify, h.1]
theorem RdP.set1 {B : Nat} {r : Rs} {w : World} (h : RdP B r w) (e : Int) : RdP B { r with err := e } (w.setCell ⟨B, 1, none⟩ (.int .i64 e)) := by
  refine ⟨?_, h.2⟩
  simp [World.setCell, Array.getElem?_modify, h.1]
theorem RdP.kept {B C : Nat} {r : Rs} {w w' : World} (h : RdP B r w) (k : Tch C w w') (hn : B ≠ C) : RdP B r w' := ⟨by rw [k.block B h.lt (by simpa using hn)]; exact h.1, h.2⟩
theorem RdP.below {B N : Nat} {r : Rs} {w w' : World} (h : RdP B r w) (k : Below N w w') (hn : B < N) : RdP B r w' := ⟨by rw [k.block B hn]; exact h.1, h.2⟩
theorem RdP.drew {B : Nat} {r : Rs} {w : World} (h : RdP B r w) : RdP B r w.drew := h
end Hub
open Hub

theorem wNew_any (s : ByteArray) (w : World) (hs : s.size ≤ 1099511627776) :
    Calls Try.prog 37 #[.string s] w fun e w' => e = .returned (.pointer (some ⟨w.heap.size, 0, none⟩)) ∧ RdP w.heap.size { rest := bl s, err := 0 } w' ∧ Below w.heap.size w w' ∧ w'.heap.size = w.heap.size + 1 := by
  go_enter Try.func37, Try.ntmps37
  go_wp2
  go_ret
  exact ⟨rfl, ⟨by rw [heap_alloc_new]; rfl, by rw [size_bl]; exact hs⟩, (Below.refl _ _).alloc (Nat.le_refl _) _, by simp⟩

theorem wErr_any (B : Nat) (r : Rs) (w : World) (h : RdP B r w) :
    Calls Try.prog 56 #[.pointer (some ⟨B, 0, none⟩)] w fun e w' => e = .returned (.int .i64 r.err) ∧ w = w' := by
  have h1 := h.c1
  have h2 := h.c2
  go_enter Try.func56, Try.ntmps56
  go_wp2
  go_ret
  exact ⟨rfl, rfl⟩

theorem wLeft_any (B : Nat) (r : Rs) (w : World) (h : RdP B r w) :
    Calls Try.prog 59 #[.pointer (some ⟨B, 0, none⟩)] w fun e w' => e = .returned (.int .i64 (rLeft r)) ∧ w = w' := by
  have h0 := h.c0
  have hl := h.2
  have hz : (mk r.rest).size = r.rest.length := rfl
  by_cases he : r.err = 0
  · have hv : rLeft r = (mk r.rest).size := by rw [rLeft, if_neg (by omega), hz]
    rw [hv]; clear hv
    rw [← hz] at hl
    have heb : (r.err != 0) = false := by simpa using he
    clear he hz
    generalize mk r.rest = K at *
    go_enter Try.func59, Try.ntmps59
    go_wp2_with (go_at_call 56; refine (wErr_any B r _ h).mono ?_; rintro e w1 ⟨rfl, rfl⟩)
    go_ret
    exact ⟨rfl, rfl⟩
  · have hv : rLeft r = 0 := by rw [rLeft, if_pos he]
    rw [hv]; clear hv
    have heb : (r.err != 0) = true := by simpa using he
    clear he
    go_enter Try.func59, Try.ntmps59
    go_wp2_with (go_at_call 56; refine (wErr_any B r _ h).mono ?_; rintro e w1 ⟨rfl, rfl⟩)
    go_ret
    exact ⟨rfl, rfl⟩

theorem wEnd_any (B : Nat) (r : Rs) (w : World) (h : RdP B r w) :
    Calls Try.prog 40 #[.pointer (some ⟨B, 0, none⟩)] w fun e w' => e = .returned (.int .i64 (rEnd r)) ∧ w = w' := by
  have HL := Lib.hid (fun w h => wLeft_any B r w h)
  have HE := Lib.hid (fun w h => wErr_any B r w h)
  by_cases hp : 0 < rLeft r
  · have hv : rEnd r = 23 := by
      rw [rLeft] at hp
      split at hp
      · omega
      · rename_i he; rw [rEnd, if_neg he, if_pos (by omega)]
    rw [hv]; clear hv
    generalize rLeft r = L at *
    go_enter Try.func40, Try.ntmps40
    go_wp2_with (go_at_call 59; refine (HL.out _ h).mono ?_; rintro e w1 ⟨rfl, rfl⟩)
    go_ret
    exact ⟨rfl, rfl⟩
  · have hv : rEnd r = r.err := by
      rw [rLeft] at hp
      split at hp
      · rename_i he; rw [rEnd, if_pos he]
      · rename_i he; rw [rEnd, if_neg he, if_neg (by omega)]; omega
    rw [hv]; clear hv
    generalize rLeft r = L at *
    go_enter Try.func40, Try.ntmps40
    go_wp2_with (first | (go_at_call 59; refine (HL.out _ h).mono ?_; rintro e w1 ⟨rfl, rfl⟩) | (go_at_call 56; refine (HE.out _ h).mono ?_; rintro e w1 ⟨rfl, rfl⟩))
    go_ret
    exact ⟨rfl, rfl⟩

set_option maxHeartbeats 1000000 in
theorem wrInt_any (B : Nat) (r : Rs) (w : World) (h : RdP B r w) :
    Calls Try.prog 38 #[.pointer (some ⟨B, 0, none⟩)] w fun e w' => e = .returned (.int .i64 (rInt r).1) ∧ RdP B (rInt r).2 w' ∧ Tch B w w' := by
  have h0 := h.c0
  have h1 := h.c1
  have hf0 := h.f 0
  have hf1 := h.f 1
  have hl := h.2
  by_cases he : r.err = 0
  · have heb : (r.err != 0) = false := by simpa using he
    have HV := Lib.hid (fun w => wVarint_any (mk r.rest) w hl)
    rw [bl_mk] at HV
    have hlt := vi_lt r.rest 0 0 (by decide) (by decide)
    obtain ⟨n, hn1, hn2, hn3⟩ := vi_rest r.rest 0 0
    by_cases hz : (vi 0 0 r.rest).1 = 0
    · have hv : rInt r = (unzig (vi 0 0 r.rest).2.1, { rest := (vi 0 0 r.rest).2.2, err := 0 }) := by rw [rInt, if_neg (by omega), if_neg (by omega)]
      have hu : viUsed r.rest = (n : Int) := by rw [viUsed, if_pos hz, hn1, List.length_drop]; omega
      have hzb : ((vi 0 0 r.rest).1 != 0) = false := by simpa using hz
      have hx : (mk r.rest).extract n (mk r.rest).size = mk (vi 0 0 r.rest).2.2 := by
        apply bl_inj; rw [bl_drop, bl_mk, bl_mk, hn1]
      have hs := h.set0 (vi 0 0 r.rest).2.2 (by rw [hn1, List.length_drop]; omega)
      rw [hv]; clear hv
      rw [hu] at HV
      have HX := Lib.hid hx
      have HS := Lib.hid hs
      clear hz hn1 hu hx hs hn3
      generalize (vi 0 0 r.rest).1 = E at *
      obtain ⟨z, hzz⟩ : ∃ z : Int, z = ((vi 0 0 r.rest).2.1 : Nat) := ⟨_, rfl⟩
      rw [← hzz] at HV
      have hz0 : 0 ≤ z := by omega
      have HZ := Lib.hid (And.intro hlt hzz)
      clear hlt hzz
      have hn4 : (n : Int) ≤ ((mk r.rest).size : Int) := by show (n : Int) ≤ (r.rest.length : Int); omega
      have hsz : (mk r.rest).size ≤ 1099511627776 := hl
      generalize mk r.rest = K at *
      go_enter Try.func38, Try.ntmps38
      go_wp2_with (first | (go_at_call 56; refine (wErr_any B r _ h).mono ?_; rintro e w1 ⟨rfl, rfl⟩) | (go_at_call 57; refine (HV.out _).mono ?_; rintro e w1 ⟨rfl, rfl⟩))
      rw [HX.out, unzig_prog z _ HZ.out.2 HZ.out.1]
      go_ret
      exact ⟨rfl, by have := HS.out; rw [he] at this; exact this, (Tch.refl _ _).setCell 0 _⟩
    · have hv : rInt r = (0, { r with err := (vi 0 0 r.rest).1 }) := by rw [rInt, if_neg (by omega), if_pos hz]
      have hs := h.set1 (vi 0 0 r.rest).1
      rw [hv]; clear hv
      have hzb : ((vi 0 0 r.rest).1 != 0) = true := by simpa using hz
      clear hz he hlt hn1 hn2 hn3
      generalize (vi 0 0 r.rest).1 = E at *
      go_enter Try.func38, Try.ntmps38
      go_wp2_with (first | (go_at_call 56; refine (wErr_any B r _ h).mono ?_; rintro e w1 ⟨rfl, rfl⟩) | (go_at_call 57; refine (HV.out _).mono ?_; rintro e w1 ⟨rfl, rfl⟩))
      go_ret
      exact ⟨rfl, hs, (Tch.refl _ _).setCell 1 _⟩
  · have hv : rInt r = (0, r) := by rw [rInt, if_pos he]
    rw [hv]; clear hv
    have heb : (r.err != 0) = true := by simpa using he
    clear he
    go_enter Try.func38, Try.ntmps38
    go_wp2_with (go_at_call 56; refine (wErr_any B r _ h).mono ?_; rintro e w1 ⟨rfl, rfl⟩)
    go_ret
    exact ⟨rfl, h, Tch.refl _ _⟩
end Go.Proofs.Ytbbfbeacgnimpaa
