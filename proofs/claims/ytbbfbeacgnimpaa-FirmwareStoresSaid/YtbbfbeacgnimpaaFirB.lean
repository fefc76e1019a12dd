/-
  The walks of what checks a block, the program's.
-/
import Derived.Test.YtbbfbeacgnimpaaFirA
import Derived.Test.YtbbfbeacgnimpaaJoi
open Go Go.RowKit Go.Proofs
namespace Go.Proofs.Ytbbfbeacgnimpaa
namespace Hub
section
variable {l : List Int} {i : Int} {b : ByteArray}
theorem verB_e1 (h : i < 0 ∨ (l.length : Int) ≤ i) : verB l i b = 2 := by rw [verB, if_pos h]
theorem verB_e2 (h : ¬ (i < 0 ∨ (l.length : Int) ≤ i)) (h2 : b.size = 0 ∨ 64 < b.size ∨ (b.size < 64 ∧ i ≠ l.length - 1)) : verB l i b = 3 := by rw [verB, if_neg h, if_pos h2]
theorem verB_e3 (h : ¬ (i < 0 ∨ (l.length : Int) ≤ i)) (h2 : ¬ (b.size = 0 ∨ 64 < b.size ∨ (b.size < 64 ∧ i ≠ l.length - 1))) : verB l i b = if sumB b ≠ l.getD i.toNat 0 then 6 else 0 := by rw [verB, if_neg h, if_neg h2]
end
theorem empty_of {b : ByteArray} (h : b.size = 0) : b = ⟨#[]⟩ := bl_inj (List.length_eq_zero_iff.1 (by rw [size_bl]; exact h))
theorem nempty_of {b : ByteArray} (h : ¬ b.size = 0) : (b.toList == (⟨#[]⟩ : ByteArray).toList) = false := beq_of_ne (fun e => h (by rw [e]; rfl))
theorem nempty_is {b : ByteArray} (h : ¬ b.size = 0) : b.toList.isEmpty = false := by
  rw [toList_bl]
  cases e : bl b with
  | nil => exact absurd (by rw [← size_bl, e]; rfl) h
  | cons c l => rfl
end Hub
open Hub

set_option maxHeartbeats 1000000 in
theorem verB_any (f : Fw) (v : Value) (lo N : Nat) (i : Int) (b : ByteArray) (w : World) (hv : IntsAt lo N w v f.sums) (hN : N ≤ w.heap.size) (hl : f.sums.length ≤ 1099511627776) (hb : b.size ≤ 1099511627776) :
    Calls Try.prog 53 #[fwv f v, .int .i64 i, .string b] w fun e w' => e = .returned (.int .i64 (verB f.sums i b)) ∧ Below w.heap.size w w' := by
  obtain ⟨a, cap, rfl, hc⟩ := hv
  unfold fwv
  by_cases h1 : i < 0
  · rw [verB_e1 (.inl h1)]
    clear hc
    generalize f.sums.length = L at *
    go_enter Try.func53, Try.ntmps53
    go_wp2_with fail
    go_ret
    exact ⟨rfl, (Below.refl _ _).alloc (Nat.le_refl _) _⟩
  · by_cases h2 : (f.sums.length : Int) ≤ i
    · rw [verB_e1 (.inr h2)]
      clear hc
      generalize f.sums.length = L at *
      have h2i : (L : Int) - 1 < i := by omega
      go_enter Try.func53, Try.ntmps53
      go_wp2_with fail
      go_ret
      exact ⟨rfl, (Below.refl _ _).alloc (Nat.le_refl _) _⟩
    · obtain ⟨k, rfl⟩ := Int.eq_ofNat_of_zero_le (show 0 ≤ i by omega)
      have hkl : k < f.sums.length := by omega
      have h2i : ¬ (f.sums.length : Int) - 1 < (k : Int) := by omega
      by_cases h3 : b.size = 0
      · rw [verB_e2 (by omega) (.inl h3)]
        obtain rfl := empty_of h3
        clear hc h3 h2 hkl
        generalize f.sums.length = L at *
        go_enter Try.func53, Try.ntmps53
        go_wp2_with fail
        go_ret
        exact ⟨rfl, (Below.refl _ _).alloc (Nat.le_refl _) _⟩
      · have hne := nempty_of h3
        have hne2 := nempty_is h3
        by_cases h4 : 64 < b.size
        · rw [verB_e2 (by omega) (.inr (.inl h4))]
          have h4i : (64 : Int) < (b.size : Int) := by omega
          clear hc h3 h2 hkl
          generalize f.sums.length = L at *
          go_enter Try.func53, Try.ntmps53
          go_wp2_with fail
          go_ret
          exact ⟨rfl, (Below.refl _ _).alloc (Nat.le_refl _) _⟩
        · have h4i : ¬ (64 : Int) < (b.size : Int) := by omega
          by_cases h5 : b.size < 64 ∧ (k : Int) ≠ f.sums.length - 1
          · rw [verB_e2 (by omega) (.inr (.inr h5))]
            have h5i : (b.size : Int) < 64 := by omega
            have h5j : ((k : Int) != (f.sums.length : Int) - 1) = true := by simpa using h5.2
            clear hc h3 h2 hkl h5
            generalize f.sums.length = L at *
            go_enter Try.func53, Try.ntmps53
            go_wp2_with fail
            go_ret
            exact ⟨rfl, (Below.refl _ _).alloc (Nat.le_refl _) _⟩
          · rw [verB_e3 (by omega) (by omega), Int.toNat_natCast]
            obtain ⟨bk, off, rfl, _, hbN, hcell⟩ := hc (by intro h; rw [h] at hkl; simp at hkl)
            have hbw : bk < w.heap.size := by omega
            have hck := hcell k hkl
            have hgd : f.sums.getD k 0 = f.sums[k] := by rw [List.getD_eq_getElem?_getD, List.getElem?_eq_getElem hkl]; rfl
            rw [hgd]
            have HC := Lib.hid (fun w => crc32_any b w hb)
            have hs0 : ((crc32 (bl b)).toNat : Int) = sumB b := rfl
            rw [hs0] at HC
            clear hcell hc hgd hs0
            generalize f.sums[k] = x at *
            generalize sumB b = s at *
            have hq : (((b.size : Int) < 64) ∧ ((k : Int) != (f.sums.length : Int) - 1) = false) ∨ ¬ ((b.size : Int) < 64) := by
              by_cases h6 : b.size < 64
              · exact .inl ⟨by omega, by simp only [bne_eq_false_iff_eq]; omega⟩
              · exact .inr (by omega)
            clear h2 h3 h5
            have hkl2 : (k : Int) < (f.sums.length : Int) := by omega
            generalize f.sums.length = L at *
            by_cases hx : s = x
            · have hxb : (s != x) = false := by simpa using hx
              rw [if_neg (by simp [hx])]
              clear hx
              rcases hq with ⟨hq1, hq2⟩ | hq1
              all_goals
                go_enter Try.func53, Try.ntmps53
                go_wp2_with fail
                go_quiet ((go_at_call 49; exact quiet_ret (HC.out _)))
                go_wp2_with fail
                go_ret
                exact ⟨rfl, Below.drewN' ((Below.refl _ _).alloc (Nat.le_refl _) _) _⟩
            · have hxb : (s != x) = true := by simpa using hx
              rw [if_pos hx]
              clear hx
              rcases hq with ⟨hq1, hq2⟩ | hq1
              all_goals
                go_enter Try.func53, Try.ntmps53
                go_wp2_with fail
                go_quiet ((go_at_call 49; exact quiet_ret (HC.out _)))
                go_wp2_with fail
                go_ret
                exact ⟨rfl, Below.drewN' ((Below.refl _ _).alloc (Nat.le_refl _) _) _⟩
end Go.Proofs.Ytbbfbeacgnimpaa
