/-
  Two lists of strings are compared: the walks.
-/
import Derived.Test.YtbbfbeacgnimpaaStr
import Derived.Test.YtbbfbeacgnimpaaWirI
open Go Go.RowKit Go.Proofs
namespace Go.Proofs.Ytbbfbeacgnimpaa
open Hub
/-- Two lists of strings are the same. -/
theorem texts_any (v v' : Value) (l l' : List ByteArray) (lo N lo' N' : Nat) (w : World) (hv : StrsAt lo N w v l) (hv' : StrsAt lo' N' w v' l') (hl : l.length ≤ 1099511627776) :
    Calls Try.prog 22 #[v, v'] w fun e w' => e = .returned (.bool (decide (l = l'))) ∧ ∃ n, w' = w.drewN n := by
  obtain ⟨a, cap, rfl, _, hc⟩ := hv
  obtain ⟨a', cap', rfl, _, hc'⟩ := hv'
  have HC := Lib.hid hc
  have HC' := Lib.hid hc'
  clear hc hc'
  by_cases hne : l.length = l'.length
  · have HN := Lib.hid hne
    rw [← hne]
    clear hne
    obtain ⟨L, hL⟩ : ∃ L, l.length = L := ⟨_, rfl⟩
    rw [hL]
    rw [hL] at hl
    have HL := Lib.hid hL
    clear hL
    go_enter Try.func22, Try.ntmps22
    go_wp2_with fail
    go_loopw [5] (fun i wr => ∃ k : Nat, k ≤ L ∧ i = .int .i64 k ∧ l.take k = l'.take k ∧ ∃ n, wr = w.drewN n) (fun i _ => L - (intOf i).toNat)
    case atStart => exact ⟨0, Nat.zero_le _, rfl, rfl, 0, rfl⟩
    case round =>
      obtain ⟨k, hk, rfl, hk2, n, rfl⟩ := hrel
      have HK := Lib.hid hk2
      clear hk2
      by_cases hlt : k < L
      · have h1 : k < l.length := by rw [HL.out]; exact hlt
        have h2 : k < l'.length := by rw [← HN.out, HL.out]; exact hlt
        obtain ⟨b, off, rfl, _, hbN, hcell⟩ := HC.out (by intro h; rw [h] at h1; simp at h1)
        obtain ⟨b', off', rfl, _, hbN', hcell'⟩ := HC'.out (by intro h; rw [h] at h2; simp at h2)
        have e1 := hcell k h1
        have e2 := hcell' k h2
        have HT := Lib.hid (show l.take (k + 1) = l.take k ++ [l[k]] from List.take_succ_eq_append_getElem h1)
        have HT' := Lib.hid (show l'.take (k + 1) = l'.take k ++ [l'[k]] from List.take_succ_eq_append_getElem h2)
        have HG := Lib.hid (fun h : l = l' => show l[k] = l'[k] from by subst h; rfl)
        clear hcell hcell'
        generalize l[k] = x at *
        generalize l'[k] = y at *
        clear h1 h2
        by_cases hxy : x = y
        · have hb : (!(x.toList == y.toList)) = false := by rw [beq_of_eq hxy]; rfl
          have hb2 : (x.toList == y.toList) = true := beq_of_eq hxy
          have HXY := Lib.hid hxy
          clear hxy
          go_wp2_with fail
          go_quiet (fail)
          go_wp2_with fail
          go_roundw
          case rel => exact ⟨k + 1, by omega, by go_num, by rw [HT.out, HT'.out, HK.out, HXY.out], _, rfl⟩
          case measure => simp [intOf]; omega
        · have hb : (!(x.toList == y.toList)) = true := by rw [beq_of_ne hxy]; rfl
          have hb2 : (x.toList == y.toList) = false := beq_of_ne hxy
          have HXY := Lib.hid (show ¬ l = l' from fun h => hxy (HG.out h))
          clear hxy
          go_wp2_with fail
          go_quiet (fail)
          go_wp2_with fail
          go_ret
          exact ⟨by rw [decide_eq_false HXY.out]; rfl, n + _, drewN_add _ _ _⟩
      · obtain rfl : k = L := by omega
        go_wp2_with fail
        go_ret
        have he : l = l' := by
          have h1 := HK.out
          rw [List.take_of_length_le (by rw [HL.out]; omega), List.take_of_length_le (by rw [← HN.out, HL.out]; omega)] at h1
          exact h1
        exact ⟨by rw [decide_eq_true he]; rfl, _, rfl⟩
  · have hb : ((l.length : Int) != (l'.length : Int)) = true := by simp; omega
    have hd : ¬ l = l' := fun h => hne (by rw [h])
    rw [decide_eq_false hd]
    clear hne hd
    go_enter Try.func22, Try.ntmps22
    go_wp2_with fail
    go_ret
    exact ⟨rfl, 0, rfl⟩
end Go.Proofs.Ytbbfbeacgnimpaa
