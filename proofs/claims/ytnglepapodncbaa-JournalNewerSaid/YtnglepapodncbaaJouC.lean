/-
  The walk of what reads a journal's record, the program's.
-/
import Derived.Test.YtnglepapodncbaaJouB
open Go Go.RowKit Go.Proofs
namespace Go.Proofs.Ytnglepapodncbaa
namespace Hub
section
variable {s : List UInt8} {n : Nat}
theorem oneJ_e1 (h : (rText 262144 ⟨s, 0⟩).2.err ≠ 0) : oneJ s n = ([], 0, (rText 262144 ⟨s, 0⟩).2.err) := by rw [oneJ, if_pos h]
theorem oneJ_e2 (h : ¬ (rText 262144 ⟨s, 0⟩).2.err ≠ 0) (h2 : (rText 262144 ⟨s, 0⟩).2.rest.length < 4) : oneJ s n = ([], 0, 5) := by rw [oneJ, if_neg h, if_pos h2]
theorem oneJ_e3 (h : ¬ (rText 262144 ⟨s, 0⟩).2.err ≠ 0) (h2 : ¬ (rText 262144 ⟨s, 0⟩).2.rest.length < 4) (h3 : (rText 262144 ⟨s, 0⟩).2.rest.take 4 ≠ sumJ (rText 262144 ⟨s, 0⟩).1 n) : oneJ s n = ([], 0, 6) := by
  rw [oneJ, if_neg h, if_neg h2, if_pos h3]
theorem oneJ_e4 (h : ¬ (rText 262144 ⟨s, 0⟩).2.err ≠ 0) (h2 : ¬ (rText 262144 ⟨s, 0⟩).2.rest.length < 4) (h3 : ¬ (rText 262144 ⟨s, 0⟩).2.rest.take 4 ≠ sumJ (rText 262144 ⟨s, 0⟩).1 n) :
    oneJ s n = ((rText 262144 ⟨s, 0⟩).1, (s.length : Int) - (rText 262144 ⟨s, 0⟩).2.rest.length + 4, 0) := by
  rw [oneJ, if_neg h, if_neg h2, if_neg h3]
theorem drop_end {s p r : List UInt8} (h : s = p ++ r) : r.length ≤ s.length ∧ s.drop (s.length - r.length) = r := by
  subst h
  rw [List.length_append, Nat.add_sub_cancel]
  exact ⟨by omega, List.drop_left' rfl⟩
end
end Hub
open Hub

set_option maxHeartbeats 1000000 in
theorem wNext_any (s : ByteArray) (n : Nat) (w : World) (hs : s.size ≤ 1099511627776) (hn : n ≤ 1099511627776) :
    Calls Try.prog 33 #[.string s, .int .i64 n] w fun e w' => e = .returned (.tuple #[.string (mk (oneJ (bl s) n).1), .int .i64 (oneJ (bl s) n).2.1, .int .i64 (oneJ (bl s) n).2.2]) ∧ Below w.heap.size w w' := by
  have HN := Lib.hid (fun w => wNew_any s w hs)
  have HT := Lib.hid (fun B w h => wrText_any B ⟨bl s, 0⟩ 262144 w h)
  have hcan := rText_canon 262144 ⟨bl s, 0⟩
  have hsh := rText_short 262144 ⟨bl s, 0⟩
  have E1 := Lib.hid (fun h => oneJ_e1 (s := bl s) (n := n) h)
  have E2 := Lib.hid (fun h => oneJ_e2 (s := bl s) (n := n) h)
  have E3 := Lib.hid (fun h => oneJ_e3 (s := bl s) (n := n) h)
  have E4 := Lib.hid (fun h => oneJ_e4 (s := bl s) (n := n) h)
  generalize rText 262144 ⟨bl s, 0⟩ = o at *
  generalize oneJ (bl s) n = T at *
  rw [size_bl] at E4
  have hpsz : (mk o.1).size ≤ 262144 := by show o.1.length ≤ _; omega
  have HS := Lib.hid (fun w => wSum_any (mk o.1) n w (by omega) hn)
  rw [bl_mk] at HS
  go_enter Try.func33, Try.ntmps33
  go_wp2_with fail
  refine (HN.out _).mono ?_
  rintro e w1 ⟨rfl, hrd, hb, _⟩
  go_wp2_with fail
  refine (HT.out _ _ hrd).mono ?_
  rintro e w2 ⟨rfl, hrd2, ht2⟩
  have hb2 : Below w.heap.size w w2 := tch_new hb ht2 (Nat.le_refl _) (Nat.le_refl _)
  clear ht2 hrd hb
  generalize hBw : w.heap.size = B at *
  have HEr := Lib.hid (fun w h => wErr_any B o.2 w h)
  by_cases he : o.2.err = 0
  · have heb : (o.2.err != 0) = false := by simpa using he
    have HLe := Lib.hid (fun w h => wLeft_any B o.2 w h)
    have hleft : rLeft o.2 = (o.2.rest.length : Int) := by rw [rLeft, if_neg (by omega)]
    rw [hleft] at HLe
    clear hleft
    obtain ⟨hR, hD⟩ := drop_end (hcan he).2
    simp only [size_bl] at hR hD
    have hR0 : (0 : Int) ≤ (o.2.rest.length : Int) := by omega
    have hR1 : (o.2.rest.length : Int) ≤ (s.size : Int) := by omega
    have hR2 : (0 : Int) ≤ (s.size : Int) - (o.2.rest.length : Int) := by omega
    have hK : bl (s.extract (s.size - o.2.rest.length) s.size) = o.2.rest := by rw [bl_drop]; exact hD
    have hKz : (s.extract (s.size - o.2.rest.length) s.size).size = o.2.rest.length := by rw [← size_bl, hK]
    have HK := Lib.hid hK
    have HKz := Lib.hid hKz
    have HRle := Lib.hid hR
    clear hK hKz hD hcan hR hsh
    go_wp2_with (first | (go_at_call 44; refine (HEr.out _ hrd2).mono ?_; rintro e w3 ⟨rfl, rfl⟩) | (go_at_call 45; refine (HLe.out _ hrd2).mono ?_; rintro e w3 ⟨rfl, rfl⟩))
    · have hlt : o.2.rest.length < 4 := by have := HRle.out; omega
      have hT := E2.out (by omega) hlt
      subst hT
      go_ret3
      exact ⟨rfl, hBw.symm ▸ hb2⟩
    · have hlt : ¬ o.2.rest.length < 4 := by have := HRle.out; omega
      have hk := HK.out
      have h4 : (4 : Int) ≤ ((s.extract (s.size - o.2.rest.length) s.size).size : Int) := by rw [HKz.out]; omega
      have hz : (4 : Int) ≤ ((s.size - (s.size - o.2.rest.length) : Nat) : Int) := by omega
      have hq1 : bl ((s.extract (s.size - o.2.rest.length) s.size).extract 0 4) = o.2.rest.take 4 := by rw [bl_take, hk]
      have hz1 : ((s.extract (s.size - o.2.rest.length) s.size).size : Int) ≤ (s.size : Int) := by rw [HKz.out]; omega
      have hz0 : (0 : Int) ≤ ((s.extract (s.size - o.2.rest.length) s.size).size : Int) := by omega
      have HZ := Lib.hid (show ((s.extract (s.size - o.2.rest.length) s.size).size : Int) = (o.2.rest.length : Int) by rw [HKz.out])
      clear hk HK HKz
      generalize s.extract (s.size - o.2.rest.length) s.size = K at *
      by_cases hq : o.2.rest.take 4 ≠ sumJ o.1 n
      · have hT := E3.out (by omega) hlt hq
        have hb5 : ((K.extract 0 4).toList == (mk (sumJ o.1 n)).toList) = false := beq_of_ne (fun h => hq (by rw [← hq1, h, bl_mk]))
        subst hT
        clear E1 E2 E3 E4 hq hq1 he
        generalize mk (sumJ o.1 n) = S at *
        go_region_with (go_at_call 38; refine (HS.out _).mono ?_; rintro e w3 ⟨rfl, hb3⟩)
        all_goals go_wp2
        all_goals go_ret3
        all_goals exact ⟨rfl, by exact below_drew hb2 hb3 (Nat.le_of_eq hBw.symm)⟩
      · have hT := E4.out (by omega) hlt hq
        have hb5 : ((K.extract 0 4).toList == (mk (sumJ o.1 n)).toList) = true := beq_of_eq (bl_inj (by rw [hq1, bl_mk]; exact Classical.not_not.1 hq))
        subst hT
        clear E1 E2 E3 E4 hq hq1 he
        generalize mk (sumJ o.1 n) = S at *
        go_region_with (go_at_call 38; refine (HS.out _).mono ?_; rintro e w3 ⟨rfl, hb3⟩)
        all_goals go_wp2
        all_goals rw [HZ.out]
        all_goals go_ret3
        all_goals exact ⟨rfl, by exact below_drew hb2 hb3 (Nat.le_of_eq hBw.symm)⟩
  · have heb : (o.2.err != 0) = true := by simpa using he
    have hT := E1.out he
    clear E1 E2 E3 E4 he hcan hsh
    subst hT
    go_wp2_with (go_at_call 44; refine (HEr.out _ hrd2).mono ?_; rintro e w3 ⟨rfl, rfl⟩)
    go_ret3
    exact ⟨rfl, hBw.symm ▸ hb2⟩
end Go.Proofs.Ytnglepapodncbaa
