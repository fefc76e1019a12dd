/-
  The walk of the third law: fields that were written are read back.
-/
import Derived.Test.YtapbmbbghbgkfaaWirM
import Derived.Test.YtapbmbbghbgkfaaWirQ
open Go Go.RowKit Go.Proofs
namespace Go.Proofs.Ytapbmbbghbgkfaa
namespace Hub
theorem encFs_drop (l : List WFd) (k : Nat) (h : k < l.length) : (l.drop k).flatMap encF = encF l[k] ++ (l.drop (k + 1)).flatMap encF := by
  rw [List.drop_eq_getElem_cons h, List.flatMap_cons]
theorem bdrew {N : Nat} {W X : World} (h : Below N W X) : Below N W X.drew := ⟨h.os, h.tape, h.output, h.size, h.block⟩
end Hub
open Hub

set_option maxHeartbeats 8000000 in
theorem back_any (v : Value) (l : List WFd) (w : World) (hv : FdsAt 0 w.heap.size w v l) (hok : ∀ f ∈ l, f.ok) (hl : l.length ≤ maxLen) :
    Calls Try.prog 5 #[v] w fun e w' => e = .returned (.bool true) ∧ Below w.heap.size w w' := by
  have hl' : l.length ≤ 9223372036854775807 := hl
  have HV := Lib.hid hv
  have HO := Lib.hid hok
  have HSh := Lib.hid (short_any v l 0 w.heap.size w hv (Nat.le_refl _) hl hok)
  have HW := Lib.hid awake_any
  clear hok hl hv
  obtain ⟨a, cap, rfl, hc⟩ := HV.out
  clear hc
  go_enter Try.func5, Try.ntmps5
  go_wp2_with fail
  refine HSh.out.mono ?_
  rintro e w1 ⟨⟨n1, rfl⟩, ⟨rfl, hl20, hsh⟩ | rfl⟩
  · have hb1 : Below w.heap.size w (w.drewN n1) := below_drewN (Below.refl _ _) n1
    have HB := Lib.hid (bytes_any _ l 0 w.heap.size (w.drewN n1) (hl := hl20) (hok := fun f hf => ⟨HO.out f hf, by have := (hsh f hf).1; omega, by have := (hsh f hf).2; omega⟩) (hN := Nat.le_refl _) (hv := by
      obtain ⟨a', cap', he, hc'⟩ := HV.out
      exact ⟨a', cap', he, fun hne => by
        obtain ⟨b, off, h1, h2, h3, h4⟩ := hc' hne
        exact ⟨b, off, h1, h2, h3, h4⟩⟩))
    go_wp2_with fail
    refine HB.out.mono ?_
    rintro e w2 ⟨rfl, hb2⟩
    have hlen := encFs_length l (fun f hf => ⟨HO.out f hf, by have := (hsh f hf).1; omega, by have := (hsh f hf).2; omega⟩)
    have HS := Lib.hid hsh
    clear hsh
    have hb2' : Below w.heap.size w w2 := bt hb1 hb2
    have HN := Lib.hid (fun w => wNew_any (mk (l.flatMap encF)) w (by rw [size_mk]; omega))
    rw [bl_mk] at HN
    go_wp2_with fail
    refine (HN.out _).mono ?_
    rintro e w3 ⟨rfl, hP3, hb3, hs3⟩
    have hb4 := bt hb2' hb3
    have hB : w.heap.size ≤ w2.heap.size := hb2'.size
    generalize w2.heap.size = B at *
    clear hs3 hb3 hb2 hb1 hb2' hlen
    go_wp2_with fail
    go_loopw [4] (fun i wr => ∃ k : Nat, k ≤ l.length ∧ i = .int .i64 k ∧ RdP B ⟨(l.drop k).flatMap encF, 0⟩ wr ∧ Below w.heap.size w wr) (fun i _ => l.length - (intOf i).toNat)
    case atStart => exact ⟨0, Nat.zero_le _, rfl, hP3, hb4⟩
    case round =>
      obtain ⟨k, hk, rfl, hP, hb⟩ := hrel
      by_cases hlt : k < l.length
      · obtain ⟨b, off, cap', he, hbN, c0, c1, c2, c3, hI⟩ := HV.out.cells hb (Nat.le_refl _) hlt
        simp only [Value.slice.injEq] at he
        obtain ⟨rfl, _, rfl⟩ := he
        have hq := HO.out _ (List.getElem_mem hlt)
        have hq2 := HS.out _ (List.getElem_mem hlt)
        rw [encFs_drop l k hlt] at hP
        obtain ⟨M, hM⟩ : ∃ M, M = (l.drop (k + 1)).flatMap encF := ⟨_, rfl⟩
        rw [← hM] at hP
        have HM := Lib.hid hM
        clear hM
        generalize l[k] = q at *
        obtain ⟨q0, q1, q2, q3, q4⟩ := q
        obtain ⟨_, _, n0, n1, hsz, hbd, hlz⟩ := hq
        obtain ⟨hs, hlq⟩ := hq2
        simp only at c0 c1 c2 c3 n0 n1 hsz hbd hlz hs hlq hI
        have hki : (k : Int) < (l.length : Int) := by omega
        by_cases k0 : q0 = 0
        · subst k0
          rw [show encF ⟨0, q1, q2, q3, q4⟩ = enc q1 from rfl] at hP
          have HX := Lib.hid (fun w h => wrInt_any B ⟨enc q1 ++ M, 0⟩ w h)
          rw [rInt_enc q1 M n0 n1] at HX
          simp only at HX
          go_wp2_with fail
          go_region_with (go_at_call 23; refine (HX.out _ (by exact hP)).mono ?_; rintro e w4 ⟨rfl, hP4, hT4⟩; have hb5 := (bdrew hb).trans (Tch.below (N := w.heap.size) hT4 hB hb.size); have d1 := ((Tch.below (N := w.heap.size) hT4 hB hb.size).cell (p := ⟨b, off + k * 4 + 1, none⟩) hbN).trans c1)
          all_goals
            go_wp2_with fail
            go_roundw
            case rel => exact ⟨k + 1, by omega, by go_num, by rw [← HM.out]; exact hP4, hb5⟩
            case measure => simp [intOf]; omega
        · have k0b : (q0 == 0) = false := by simpa using k0
          by_cases k1 : q0 = 1
          · subst k1
            rw [show encF ⟨1, q1, q2, q3, q4⟩ = encT (bl q2) from rfl] at hP
            have HX := Lib.hid (fun w h => wrText_any B ⟨encT (bl q2) ++ M, 0⟩ (q2.size : Int) w h)
            rw [rText_enc (bl q2) M _ (by rw [size_bl]; omega) (by rw [size_bl]; omega)] at HX
            simp only [mk_bl] at HX
            go_wp2_with fail
            go_region_with (go_at_call 24; refine (HX.out _ (by exact hP)).mono ?_; rintro e w4 ⟨rfl, hP4, hT4⟩; have hb5 := (bdrew hb).trans (Tch.below (N := w.heap.size) hT4 hB hb.size); have d2 := ((Tch.below (N := w.heap.size) hT4 hB hb.size).cell (p := ⟨b, off + k * 4 + 2, none⟩) hbN).trans c2)
            all_goals
              go_wp2_with fail
              go_roundw
              case rel => exact ⟨k + 1, by omega, by go_num, by rw [← HM.out]; exact hP4, hb5⟩
              case measure => simp [intOf]; omega
          · have k1b : (q0 == 1) = false := by simpa using k1
            by_cases k2 : q0 = 2
            · subst k2
              rw [show encF ⟨2, q1, q2, q3, q4⟩ = encB (q1 == 1) from rfl] at hP
              have HX := Lib.hid (fun w h => wrBool_any B ⟨encB (q1 == 1) ++ M, 0⟩ w h)
              rw [rBool_enc (q1 == 1) M] at HX
              simp only at HX
              go_wp2_with fail
              go_region_with (go_at_call 25; refine (HX.out _ (by exact hP)).mono ?_; rintro e w4 ⟨rfl, hP4, hT4⟩; have hb5 := (bdrew hb).trans (Tch.below (N := w.heap.size) hT4 hB hb.size); have d1 := ((Tch.below (N := w.heap.size) hT4 hB hb.size).cell (p := ⟨b, off + k * 4 + 1, none⟩) hbN).trans c1)
              all_goals
                go_wp2_with fail
                go_roundw
                case rel => exact ⟨k + 1, by omega, by go_num, by rw [← HM.out]; exact hP4, hb5⟩
                case measure => simp [intOf]; omega
            · have k2b : (q0 == 2) = false := by simpa using k2
              rw [show encF ⟨q0, q1, q2, q3, q4⟩ = encL q4 by rw [encF, if_neg k0, if_neg k1, if_neg k2]] at hP
              have HX := Lib.hid (fun w h => wrInts_any B ⟨encL q4 ++ M, 0⟩ 100 w h)
              rw [rInts_enc q4 M _ (by omega) hlz hbd] at HX
              simp only at HX
              have HI := Lib.hid hI
              have hqs : q4.length ≤ 1099511627776 := by omega
              clear hI hbd n0 n1 k0 k1 k2
              go_wp2_with fail
              go_region_with (first | (go_at_call 27; refine (HX.out _ (by exact hP)).mono ?_; rintro e w4 ⟨v4, rfl, hO4, hP4, hT4⟩; have hb5 := (bdrew hb).trans (Tch.below (N := w.heap.size) hT4 hB hb.size); have d3 := ((Tch.below (N := w.heap.size) hT4 hB hb.size).cell (p := ⟨b, off + k * 4 + 3, none⟩) hbN).trans c3) | (go_at_call 26; refine (same_any _ _ q4 q4 _ _ _ _ _ hO4.ints ((show IntsAt 0 w.heap.size wr.drew q3 q4 from HI.out).below (Tch.below (N := w.heap.size) hT4 hB hb.size) (Nat.le_refl _)) hqs).mono ?_; rw [decide_eq_true (rfl : q4 = q4)]; rintro e w5 ⟨rfl, n5, rfl⟩))
              all_goals
                go_wp2_with fail
                go_roundw
                case rel => exact ⟨k + 1, by omega, by go_num, by rw [← HM.out]; exact hP4, below_drewN hb5 n5⟩
                case measure => simp [intOf]; omega
      · obtain rfl : k = l.length := by omega
        rw [List.drop_length] at hP
        go_wp2_with fail
        refine (wEnd_any _ _ _ hP).mono ?_
        rintro e w3 ⟨rfl, rfl⟩
        rw [show rEnd ⟨[].flatMap encF, 0⟩ = 0 from rfl]
        go_wp2_with fail
        refine (HW.out _).mono ?_
        rintro e w8 ⟨rfl, hb8⟩
        go_wp2_with fail
        go_ret
        exact ⟨rfl, bt hb hb8⟩
  · go_wp2_with fail
    refine (HW.out _).mono ?_
    rintro e w8 ⟨rfl, hb8⟩
    go_wp2_with fail
    go_ret
    exact ⟨rfl, bt (below_drewN (Below.refl _ _) n1) hb8⟩
end Go.Proofs.Ytapbmbbghbgkfaa
