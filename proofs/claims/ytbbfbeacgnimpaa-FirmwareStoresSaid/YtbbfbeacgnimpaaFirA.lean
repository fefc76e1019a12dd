/-
  The walks of what checks a description and a block, the program's and the reference's.
-/
import Derived.Test.YtbbfbeacgnimpaaFir
import Derived.Test.YtbbfbeacgnimpaaStq
import Derived.Test.YtbbfbeacgnimpaaDigA
open Go Go.RowKit Go.Proofs
namespace Go.Proofs.Ytbbfbeacgnimpaa
namespace Hub
theorem Below.drewN' {N : Nat} {w w' : World} (h : Below N w w') (n : Nat) : Below N w (w'.drewN n) := ⟨h.os, h.tape, h.output, h.size, h.block⟩
theorem Below.drew' {N : Nat} {w w' : World} (h : Below N w w') : Below N w w'.drew := ⟨h.os, h.tape, h.output, h.size, h.block⟩
/-- The value of a description whose sums are the slice v. -/
def fwv (f : Fw) (v : Value) : Value := .agg #[.int .i64 f.ven, .int .i64 f.ver, v]
theorem namedF_of {a b : Int} (h : 0 ≤ a ∧ a ≤ 255 ∧ 1 ≤ b ∧ b ≤ 65535) : namedF a b = true := by simp [namedF]; omega
theorem namedF_not {a b : Int} (h : ¬ (0 ≤ a ∧ a ≤ 255 ∧ 1 ≤ b ∧ b ≤ 65535)) : namedF a b = false := by
  cases e : namedF a b with
  | false => rfl
  | true => exact absurd (namedF_bounds e) h
theorem sumsOk_step (l : List Int) (k : Nat) (h : k < l.length) : sumsOk (l.drop k) = (decide (0 ≤ l[k]) && decide (l[k] ≤ 4294967295) && sumsOk (l.drop (k + 1))) := by
  rw [List.drop_eq_getElem_cons h]; rfl
section
variable {f : Fw}
theorem chkF_e1 (h : namedF f.ven f.ver = false) : chkF f = 2 := by rw [chkF, if_pos h]
theorem chkF_e2 (h : ¬ namedF f.ven f.ver = false) (h2 : f.sums.length < 1 ∨ 64 < f.sums.length) : chkF f = 3 := by rw [chkF, if_neg h, if_pos h2]
theorem chkF_e3 (h : ¬ namedF f.ven f.ver = false) (h2 : ¬ (f.sums.length < 1 ∨ 64 < f.sums.length)) : chkF f = if sumsOk f.sums = false then 2 else 0 := by rw [chkF, if_neg h, if_neg h2]
end
end Hub
open Hub

theorem named_any (a b : Int) (w : World) : Calls Try.prog 36 #[.int .i64 a, .int .i64 b] w fun e w' => e = .returned (.bool (namedF a b)) ∧ w = w' := by
  by_cases h1 : 0 ≤ a
  · by_cases h2 : a ≤ 255
    · by_cases h3 : 1 ≤ b
      · by_cases h4 : b ≤ 65535
        · rw [namedF_of ⟨h1, h2, h3, h4⟩]
          go_enter Try.func36, Try.ntmps36
          go_wp2
          go_ret
          exact ⟨rfl, rfl⟩
        · rw [namedF_not (by omega)]
          go_enter Try.func36, Try.ntmps36
          go_wp2
          go_ret
          exact ⟨rfl, rfl⟩
      · rw [namedF_not (by omega)]
        go_enter Try.func36, Try.ntmps36
        go_wp2
        go_ret
        exact ⟨rfl, rfl⟩
    · rw [namedF_not (by omega)]
      go_enter Try.func36, Try.ntmps36
      go_wp2
      go_ret
      exact ⟨rfl, rfl⟩
  · rw [namedF_not (by omega)]
    go_enter Try.func36, Try.ntmps36
    go_wp2
    go_ret
    exact ⟨rfl, rfl⟩

set_option maxHeartbeats 1000000 in
theorem chk_any (f : Fw) (v : Value) (lo N : Nat) (w : World) (hv : IntsAt lo N w v f.sums) (hN : N ≤ w.heap.size) (hl : f.sums.length ≤ 1099511627776) :
    Calls Try.prog 11 #[fwv f v] w fun e w' => e = .returned (.int .i64 (chkF f)) ∧ Below w.heap.size w w' := by
  have HN := Lib.hid (fun w => named_any f.ven f.ver w)
  obtain ⟨a, cap, rfl, hc⟩ := hv
  have HC := Lib.hid hc
  unfold fwv
  by_cases h1 : namedF f.ven f.ver = false
  · rw [chkF_e1 h1]
    rw [h1] at HN
    clear h1 hc HC
    generalize f.sums.length = L at *
    go_enter Try.func11, Try.ntmps11
    go_wp2_with (refine (HN.out _).mono ?_; rintro e w1 ⟨rfl, rfl⟩)
    go_ret
    exact ⟨rfl, (Below.refl _ _).alloc (Nat.le_refl _) _⟩
  · have h1t : namedF f.ven f.ver = true := by simpa using h1
    rw [h1t] at HN
    by_cases h2 : f.sums.length < 1
    · rw [chkF_e2 h1 (.inl h2)]
      clear h1 h1t hc HC
      generalize f.sums.length = L at *
      have h2i : (L : Int) < 1 := by omega
      go_enter Try.func11, Try.ntmps11
      go_wp2_with (refine (HN.out _).mono ?_; rintro e w1 ⟨rfl, rfl⟩)
      go_ret
      exact ⟨rfl, (Below.refl _ _).alloc (Nat.le_refl _) _⟩
    · by_cases h3 : 64 < f.sums.length
      · rw [chkF_e2 h1 (.inr h3)]
        clear h1 h1t hc HC
        generalize f.sums.length = L at *
        have h2i : ¬ (L : Int) < 1 := by omega
        have h3i : (64 : Int) < (L : Int) := by omega
        go_enter Try.func11, Try.ntmps11
        go_wp2_with (refine (HN.out _).mono ?_; rintro e w1 ⟨rfl, rfl⟩)
        go_ret
        exact ⟨rfl, (Below.refl _ _).alloc (Nat.le_refl _) _⟩
      · rw [chkF_e3 h1 (by omega)]
        obtain ⟨b, off, rfl, _, hbN, hcell⟩ := hc (by intro h; rw [h] at h2; simp at h2)
        have hbw : b < w.heap.size := by omega
        have HX := Lib.hid hcell
        have HSt := Lib.hid (sumsOk_step f.sums)
        clear hcell hc HC h1 h1t
        generalize hR : (if sumsOk f.sums = false then (2 : Int) else 0) = R
        have HR := Lib.hid hR
        clear hR
        obtain ⟨L, hL⟩ : ∃ L, f.sums.length = L := ⟨_, rfl⟩
        rw [hL]
        rw [hL] at h2 h3
        have HL := Lib.hid hL
        clear hL hl
        have h2i : ¬ (L : Int) < 1 := by omega
        have h3i : ¬ (64 : Int) < (L : Int) := by omega
        go_enter Try.func11, Try.ntmps11
        go_wp2_with (refine (HN.out _).mono ?_; rintro e w1 ⟨rfl, rfl⟩)
        go_loop [24] (fun i => ∃ k : Nat, k ≤ L ∧ i = .int .i64 k ∧ sumsOk f.sums = sumsOk (f.sums.drop k)) (fun i => L - (intOf i).toNat)
        case atStart => exact ⟨0, Nat.zero_le _, rfl, rfl⟩
        case round =>
          obtain ⟨k, hk, rfl, hs⟩ := hrel
          by_cases hlt : k < L
          · have hkx : k < f.sums.length := by rw [HL.out]; exact hlt
            have hck := HX.out k hkx
            have hst := HSt.out k hkx
            rw [← hs] at hst
            have HT := Lib.hid hst
            clear hst hs
            generalize f.sums[k] = x at *
            by_cases hx0 : x < 0
            · have hr : R = 2 := by rw [← HR.out, HT.out, decide_eq_false (by omega)]; rfl
              subst hr
              go_wp2
              go_ret
              exact ⟨rfl, (Below.refl _ _).alloc (Nat.le_refl _) _⟩
            · by_cases hx1 : 4294967295 < x
              · have hr : R = 2 := by rw [← HR.out, HT.out, decide_eq_false (show ¬ x ≤ 4294967295 by omega), Bool.and_false]; rfl
                subst hr
                go_wp2
                go_ret
                exact ⟨rfl, (Below.refl _ _).alloc (Nat.le_refl _) _⟩
              · have hs2 : sumsOk f.sums = sumsOk (f.sums.drop (k + 1)) := by rw [HT.out, decide_eq_true (by omega), decide_eq_true (by omega)]; rfl
                go_wp2
                exact ⟨⟨k + 1, by omega, by go_num, hs2⟩, by simp [intOf]; omega⟩
          · obtain rfl : k = L := by omega
            have hr : R = 0 := by rw [← HR.out, hs, List.drop_eq_nil_of_le (by rw [HL.out]; omega)]; rfl
            subst hr
            go_wp2
            go_ret
            exact ⟨rfl, (Below.refl _ _).alloc (Nat.le_refl _) _⟩
end Go.Proofs.Ytbbfbeacgnimpaa
