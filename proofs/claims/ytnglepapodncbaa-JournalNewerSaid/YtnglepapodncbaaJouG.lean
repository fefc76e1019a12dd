/-
  The walk of what reads a journal's record, the reference's.
-/
import Derived.Test.YtnglepapodncbaaJouF
open Go Go.RowKit Go.Proofs
namespace Go.Proofs.Ytnglepapodncbaa
namespace Hub
theorem rec_take {s p r : List UInt8} (n : Nat) (h : s = encT p ++ r) (h4 : 4 ≤ r.length) : s.take (s.length - r.length + 4) = encT p ++ r.take 4 ∧ (s.take (s.length - r.length + 4) = recJ p n ↔ r.take 4 = sumJ p n) := by
  have e : s.take (s.length - r.length + 4) = encT p ++ r.take 4 := by
    subst h
    rw [List.length_append, Nat.add_sub_cancel, List.take_length_add_append]
  refine ⟨e, by rw [e, recJ]; exact ⟨fun h => List.append_cancel_left h, fun h => by rw [h]⟩⟩
end Hub
open Hub

set_option maxHeartbeats 1000000 in
theorem xOne_any (s : ByteArray) (n : Nat) (w : World) (hs : s.size ≤ 1099511627776) (hn : n ≤ 1099511627776) :
    Calls Try.prog 35 #[.string s, .int .i64 n] w fun e w' => e = .returned (.tuple #[.string (mk (oneJ (bl s) n).1), .int .i64 (oneJ (bl s) n).2.1, .int .i64 (oneJ (bl s) n).2.2]) ∧ Below w.heap.size w w' := by
  have HN := Lib.hid (fun w => xNew_any s w hs)
  have HT := Lib.hid (fun B w h => xText_any B s ⟨bl s, 0⟩ 262144 w h)
  have hcan := rText_canon 262144 ⟨bl s, 0⟩
  have hsh := rText_short 262144 ⟨bl s, 0⟩
  have E1 := Lib.hid (fun h => oneJ_e1 (s := bl s) (n := n) h)
  have E2 := Lib.hid (fun h => oneJ_e2 (s := bl s) (n := n) h)
  have E3 := Lib.hid (fun h => oneJ_e3 (s := bl s) (n := n) h)
  have E4 := Lib.hid (fun h => oneJ_e4 (s := bl s) (n := n) h)
  generalize rText 262144 ⟨bl s, 0⟩ = o at *
  generalize oneJ (bl s) n = T at *
  rw [size_bl] at E4
  have hpsz : (mk o.1).size ≤ 262144 := by show o.1.length ≤ _; omega
  have HS := Lib.hid (fun w => xRec_any (mk o.1) n w (by omega) hn)
  rw [bl_mk] at HS
  go_enter Try.func35, Try.ntmps35
  go_wp2_with fail
  refine (HN.out _).mono ?_
  rintro e w1 ⟨rfl, hrd, hb, _⟩
  go_wp2_with fail
  refine (HT.out _ _ hrd).mono ?_
  rintro e w2 ⟨rfl, hrd2, ht2⟩
  have hb2 : Below w.heap.size w w2 := tch_new hb ht2 (Nat.le_refl _) (Nat.le_refl _)
  clear ht2 hrd hb
  generalize hBw : w.heap.size = B at *
  have HEr := Lib.hid (fun w h => xErr_any B s o.2 w h)
  by_cases he : o.2.err = 0
  · have heb : (o.2.err != 0) = false := by simpa using he
    have HLe := Lib.hid (fun w h => xLeft_any B s o.2 w h)
    have hleft : rLeft o.2 = (o.2.rest.length : Int) := by rw [rLeft, if_neg (by omega)]
    rw [hleft] at HLe
    clear hleft
    have hc := (hcan he).2
    obtain ⟨hR, _⟩ := drop_end hc
    simp only [size_bl] at hR hc
    have hR0 : (0 : Int) ≤ (o.2.rest.length : Int) := by omega
    have hR1 : (o.2.rest.length : Int) ≤ (s.size : Int) := by omega
    clear hcan hR hsh
    by_cases hlt : o.2.rest.length < 4
    · have hlti : (o.2.rest.length : Int) < 4 := by omega
      have hT := E2.out (by omega) hlt
      subst hT
      clear E1 E2 E3 E4 he hc
      go_wp2_with (first | (go_at_call 49; refine (HEr.out _ hrd2).mono ?_; rintro e w3 ⟨rfl, rfl⟩) | (go_at_call 50; refine (HLe.out _ hrd2).mono ?_; rintro e w3 ⟨rfl, n3, rfl⟩))
      go_ret3
      exact ⟨rfl, by exact Below.drewN' hb2 _⟩
    · have hlti : ¬ (o.2.rest.length : Int) < 4 := by omega
      obtain ⟨_, hq0⟩ := rec_take n hc (by omega)
      rw [size_bl] at hq0
      have hk : bl (s.extract 0 (s.size - o.2.rest.length + 4)) = (bl s).take (s.size - o.2.rest.length + 4) := bl_take _ _
      have hrg : (s.size : Int) - (o.2.rest.length : Int) + 4 ≤ (s.size : Int) := by omega
      have hrg0 : (0 : Int) ≤ (s.size : Int) - (o.2.rest.length : Int) + 4 := by omega
      have HTn := Lib.hid (show ((s.size : Int) - (o.2.rest.length : Int) + 4).toNat = s.size - o.2.rest.length + 4 by omega)
      rw [← hk] at hq0
      have HQ := Lib.hid hq0
      clear hc hq0 hk
      by_cases hq : o.2.rest.take 4 ≠ sumJ o.1 n
      · have hT := E3.out (by omega) hlt hq
        have hb5 : ((s.extract 0 (s.size - o.2.rest.length + 4)).toList == (mk (recJ o.1 n)).toList) = false := beq_of_ne (fun h => hq (HQ.out.1 (by rw [h, bl_mk])))
        subst hT
        clear E1 E2 E3 E4 hq he
        rw [← HTn.out] at hb5
        generalize mk (recJ o.1 n) = S at *
        go_wp2_with (first | (go_at_call 49; refine (HEr.out _ hrd2).mono ?_; rintro e w3 ⟨rfl, rfl⟩) | (go_at_call 50; refine (HLe.out _ (by exact hrd2)).mono ?_; rintro e w3 ⟨rfl, n3, rfl⟩))
        go_region_with (go_at_call 29; refine (HS.out _).mono ?_; rintro e w3 ⟨rfl, hb3⟩)
        all_goals go_wp2
        all_goals go_ret3
        all_goals exact ⟨rfl, by exact below_drew (Below.drewN' hb2 _) hb3 (Nat.le_of_eq hBw.symm)⟩
      · have hT := E4.out (by omega) hlt hq
        have hb5 : ((s.extract 0 (s.size - o.2.rest.length + 4)).toList == (mk (recJ o.1 n)).toList) = true := beq_of_eq (bl_inj (by rw [HQ.out.2 (Classical.not_not.1 hq), bl_mk]))
        subst hT
        clear E1 E2 E3 E4 hq he
        rw [← HTn.out] at hb5
        generalize mk (recJ o.1 n) = S at *
        go_wp2_with (first | (go_at_call 49; refine (HEr.out _ hrd2).mono ?_; rintro e w3 ⟨rfl, rfl⟩) | (go_at_call 50; refine (HLe.out _ (by exact hrd2)).mono ?_; rintro e w3 ⟨rfl, n3, rfl⟩))
        go_region_with (go_at_call 29; refine (HS.out _).mono ?_; rintro e w3 ⟨rfl, hb3⟩)
        all_goals go_wp2
        all_goals go_ret3
        all_goals exact ⟨rfl, by exact below_drew (Below.drewN' hb2 _) hb3 (Nat.le_of_eq hBw.symm)⟩
  · have heb : (o.2.err != 0) = true := by simpa using he
    have hT := E1.out he
    clear E1 E2 E3 E4 he hcan hsh
    subst hT
    go_wp2_with (go_at_call 49; refine (HEr.out _ hrd2).mono ?_; rintro e w3 ⟨rfl, rfl⟩)
    go_ret3
    exact ⟨rfl, hBw.symm ▸ hb2⟩
end Go.Proofs.Ytnglepapodncbaa
