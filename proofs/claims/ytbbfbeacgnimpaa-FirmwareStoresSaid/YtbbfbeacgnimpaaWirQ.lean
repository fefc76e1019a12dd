/-
  What was written is read back: the plain law.
-/
import Derived.Test.YtbbfbeacgnimpaaWirB
open Go Go.RowKit Go.Proofs
namespace Go.Proofs.Ytbbfbeacgnimpaa
namespace Hub
theorem rInt_enc (n : Int) (m : List UInt8) (h0 : -9223372036854775808 ≤ n) (h1 : n ≤ 9223372036854775807) : rInt ⟨enc n ++ m, 0⟩ = (n, ⟨m, 0⟩) := by
  simp only [rInt, vi_enc n m h0 h1, unzig_zig]; rfl
theorem rCount_enc (a : Nat) (m : List UInt8) (most : Int) (h : (a : Int) ≤ most) (h1 : a ≤ 9223372036854775807) : rCount most ⟨enc a ++ m, 0⟩ = ((a : Int), (⟨m, 0⟩ : Rs)) := by
  have e := rInt_enc a m (by omega) (by omega)
  rw [rCount, e, if_neg (by simp), if_neg (by simp only; omega), if_neg (by simp only; omega)]
theorem rText_enc (s m : List UInt8) (most : Int) (h : (s.length : Int) ≤ most) (h1 : s.length ≤ 9223372036854775807) : rText most ⟨encT s ++ m, 0⟩ = (s, ⟨m, 0⟩) := by
  have e := rCount_enc s.length (s ++ m) most h h1
  rw [encT, List.append_assoc, rText, e, if_neg (by simp), if_neg (by simp only [List.length_append]; omega)]
  simp only [Int.toNat_natCast, List.take_left', List.drop_left']
theorem rBool_enc (b : Bool) (m : List UInt8) : rBool ⟨encB b ++ m, 0⟩ = (b, ⟨m, 0⟩) := by
  cases b <;> rfl
theorem rMany_enc (l : List Int) (m : List UInt8) (hb : IntB l) : rMany l.length ⟨l.flatMap enc ++ m, 0⟩ = (l, ⟨m, 0⟩) := by
  induction l with
  | nil => rfl
  | cons a l ih =>
    have e := rInt_enc a (l.flatMap enc ++ m) (hb a (by simp)).1 (hb a (by simp)).2
    have e2 := ih (fun x hx => hb x (by simp [hx]))
    rw [List.length_cons, List.flatMap_cons, List.append_assoc, rMany, e]
    simp only [e2]
theorem rInts_enc (l : List Int) (m : List UInt8) (most : Int) (h : (l.length : Int) ≤ most) (h1 : l.length ≤ 9223372036854775807) (hb : IntB l) : rInts most ⟨encL l ++ m, 0⟩ = (l, ⟨m, 0⟩) := by
  have e := rCount_enc l.length (l.flatMap enc ++ m) most h h1
  have e2 := rMany_enc l m hb
  rw [encL, List.append_assoc, rInts, e, Int.toNat_natCast, e2, if_neg (by simp)]
end Hub
end Go.Proofs.Ytbbfbeacgnimpaa
