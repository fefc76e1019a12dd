/-
  Fragments: the walk of the law on the pieces of two messages, added in turn.
-/
import Derived.Test.YtmjamjadfnbkdaaFuf
open Go Go.RowKit Go.Proofs
namespace Go.Proofs.Ytmjamjadfnbkdaa
namespace Hub
theorem partE_past {s : ByteArray} {src id' : Int} {i : Nat} (h : cntS s ≤ i) : partE s src id' i = [] := by unfold partE; rw [if_neg (by omega)]
theorem partE_zero (s : ByteArray) (src id' : Int) : partE s src id' 0 = [] := by unfold partE; rw [if_neg (by omega)]
end Hub
open Hub

set_option maxRecDepth 20000 in
set_option maxHeartbeats 8000000 in
theorem apartBad (s t : ByteArray) (id' id2 src src2 : Int) (w : World) (h : 1000 < s.size ∨ 1000 < t.size ∨ id' < 0 ∨ 255 < id' ∨ id2 < 0 ∨ 255 < id2 ∨ (id' = id2 ∧ src = src2)) :
    Calls Try.prog 8 #[.string s, .string t, .int .i64 id', .int .i64 id2, .int .i64 src, .int .i64 src2] w fun e w' => e = .returned (.bool true) ∧ Below w.heap.size w w' := by
  by_cases q0 : (1000 : Int) < (s.size : Int)
  · clear h
    go_enter Try.func8, Try.ntmps8
    go_wp2_with (refine (awake_any _).mono ?_; rintro e w1 ⟨rfl, hb⟩)
    go_ret
    exact ⟨rfl, hb⟩
  · skip
    by_cases q1 : (1000 : Int) < (t.size : Int)
    · clear h
      go_enter Try.func8, Try.ntmps8
      go_wp2_with (refine (awake_any _).mono ?_; rintro e w1 ⟨rfl, hb⟩)
      go_ret
      exact ⟨rfl, hb⟩
    · skip
      by_cases q2 : id' < 0
      · clear h
        go_enter Try.func8, Try.ntmps8
        go_wp2_with (refine (awake_any _).mono ?_; rintro e w1 ⟨rfl, hb⟩)
        go_ret
        exact ⟨rfl, hb⟩
      · skip
        by_cases q3 : 255 < id'
        · clear h
          go_enter Try.func8, Try.ntmps8
          go_wp2_with (refine (awake_any _).mono ?_; rintro e w1 ⟨rfl, hb⟩)
          go_ret
          exact ⟨rfl, hb⟩
        · skip
          by_cases q4 : id2 < 0
          · clear h
            go_enter Try.func8, Try.ntmps8
            go_wp2_with (refine (awake_any _).mono ?_; rintro e w1 ⟨rfl, hb⟩)
            go_ret
            exact ⟨rfl, hb⟩
          · skip
            by_cases q5 : 255 < id2
            · clear h
              go_enter Try.func8, Try.ntmps8
              go_wp2_with (refine (awake_any _).mono ?_; rintro e w1 ⟨rfl, hb⟩)
              go_ret
              exact ⟨rfl, hb⟩
            · skip
              obtain ⟨rfl, rfl⟩ : id' = id2 ∧ src = src2 := by omega
              have e1 : (id' == id') = true := beq_self_eq_true _
              have e2 : (src == src) = true := beq_self_eq_true _
              clear h
              go_enter Try.func8, Try.ntmps8
              go_wp2_with (refine (awake_any _).mono ?_; rintro e w1 ⟨rfl, hb⟩)
              go_ret
              exact ⟨rfl, hb⟩

set_option maxRecDepth 20000 in
set_option maxHeartbeats 8000000 in
theorem lawApart (s t : ByteArray) (id' id2 src src2 : Int) (w : World) (_hs : s.size ≤ maxLen) (_ht : t.size ≤ maxLen) (_h0 : -9223372036854775808 ≤ id') (_h1 : id' ≤ 9223372036854775807) (_h2 : -9223372036854775808 ≤ id2) (_h3 : id2 ≤ 9223372036854775807) (_h4 : -9223372036854775808 ≤ src) (_h5 : src ≤ 9223372036854775807) (_h6 : -9223372036854775808 ≤ src2) (_h7 : src2 ≤ 9223372036854775807) :
    Calls Try.prog 8 #[.string s, .string t, .int .i64 id', .int .i64 id2, .int .i64 src, .int .i64 src2] w fun e w' => e = .returned (.bool true) ∧ Below w.heap.size w w' := by
  clear _hs _ht _h0 _h1 _h2 _h3 _h4 _h5 _h6 _h7
  by_cases hbad : 1000 < s.size ∨ 1000 < t.size ∨ id' < 0 ∨ 255 < id' ∨ id2 < 0 ∨ 255 < id2 ∨ (id' = id2 ∧ src = src2)
  · exact apartBad s t id' id2 src src2 w hbad
  · have p0 : ¬ (1000 : Int) < (s.size : Int) := by omega
    have p1 : ¬ (1000 : Int) < (t.size : Int) := by omega
    have p2 : ¬ id' < 0 := by omega
    have p3 : ¬ 255 < id' := by omega
    have p4 : ¬ id2 < 0 := by omega
    have p5 : ¬ 255 < id2 := by omega
    have hne : ¬ (src = src2 ∧ id' = id2) := by omega
    have hs : s.size ≤ 1000 := by omega
    have ht : t.size ≤ 1000 := by omega
    clear hbad
    have HS := Lib.hid (fun W => split_any s id' W (by omega))
    rw [splitF_ok hs (by omega) (by omega)] at HS
    have HT := Lib.hid (fun W => split_any t id2 W (by omega))
    rw [splitF_ok ht (by omega) (by omega)] at HT
    have HCs := Lib.hid (fun lo N w v => pcs_cells (s := s) (id' := id') (lo := lo) (N := N) (w := w) (v := v))
    have HCt := Lib.hid (fun lo N w v => pcs_cells (s := t) (id' := id2) (lo := lo) (N := N) (w := w) (v := v))
    have HPs := Lib.hid (fun k (hk : k < cntS s) => (piece_facts (id' := id') hs (by omega) (by omega) hk).2.1)
    have HPt := Lib.hid (fun k (hk : k < cntS t) => (piece_facts (id' := id2) ht (by omega) (by omega) hk).2.1)
    have HAs := Lib.hid (fun i (hi : i < cntS s) => part_add (src := src) (src2 := src2) (j := i) (i := i) hs ht (show 0 ≤ id' by omega) (by omega) (show 0 ≤ id2 by omega) (by omega) hne hi (fun e => by rw [e]; exact partE_zero _ _ _))
    have HAt := Lib.hid (fun j i (hi : i < cntS t) => part_add2 (src := src) (src2 := src2) (j := j) (i := i) hs ht (show 0 ≤ id' by omega) (by omega) (show 0 ≤ id2 by omega) (by omega) hne hi)
    have HEs := Lib.hid (fun i (h : cntS s ≤ i) => partE_past (src := src) (id' := id') h)
    have HEt := Lib.hid (fun i (h : cntS t ≤ i) => partE_past (src := src2) (id' := id2) h)
    have HLen := Lib.hid (fun i j => (show (partE s src id' i ++ partE t src2 id2 j).length ≤ 1000 by rw [List.length_append]; have := partE_len s src id' i; have := partE_len t src2 id2 j; omega))
    have H0 := Lib.hid (show partE s src id' 0 ++ partE t src2 id2 0 = [] by rw [partE_zero, partE_zero]; rfl)
    have hss : (s.toList == s.toList) = true := beq_self_eq_true _
    have hss2 : (!(s.toList == s.toList)) = false := by rw [hss]; rfl
    have htt : (t.toList == t.toList) = true := beq_self_eq_true _
    have htt2 : (!(t.toList == t.toList)) = false := by rw [htt]; rfl
    have n1 := cntS_pos s
    have n16 := cntS_le s hs
    have m1 := cntS_pos t
    have m16 := cntS_le t ht
    generalize cntS s = n at *
    generalize cntS t = m at *
    clear hs ht
    have hkey : (id' == id2) = false ∨ (id' == id2) = true ∧ (src == src2) = false := by
      by_cases e : id' = id2
      · right
        refine ⟨by simpa using e, ?_⟩
        have : src ≠ src2 := fun e2 => hne ⟨e2, e⟩
        simpa using this
      · left; simpa using e
    clear hne
    rcases hkey with hk1 | ⟨hk1, hk2⟩
    all_goals
      go_enter Try.func8, Try.ntmps8
      go_wp2_with fail
      refine (HS.out _).mono ?_
      rintro e w1 ⟨u1, rfl, hu1, hb1⟩
      obtain ⟨b, off, cap, rfl, hbb, hcell⟩ := HCs.out _ _ _ _ hu1
      have HB1 := Lib.hid hb1
      have HC1 := Lib.hid hcell
      clear hu1 hb1 hcell
      go_wp2_with fail
      refine (HT.out _).mono ?_
      rintro e w2 ⟨u2, rfl, hu2, hb2⟩
      obtain ⟨c, ofc, cac, rfl, hcc, hcell⟩ := HCt.out _ _ _ _ hu2
      have HB2 := Lib.hid (bt HB1.out hb2)
      have HCs1 := Lib.hid (fun k (hk : k < n) => (hb2.cell (p := ⟨b, off + k, none⟩) hbb).trans (HC1.out k hk))
      have HCt1 := Lib.hid hcell
      have Hbb := Lib.hid (Nat.lt_of_lt_of_le hbb hb2.size)
      have Hcc := Lib.hid hcc
      clear hu2 hb2 hcell HS HT HCs HCt HC1 HB1 hbb hcc
      go_wp2_with fail
      go_loopw [17, 18, 19, 20] (fun p q18 q19 q20 wr => ∃ (i o1 o2 : Nat) (l : List Pt), i ≤ n + m ∧ q20 = .int .i64 i ∧ q18 = .int .i64 o1 ∧ q19 = .int .i64 o2 ∧ (i < n → o1 = 0) ∧ (n ≤ i → o1 = 1) ∧ (i < m → o2 = 0) ∧ (m ≤ i → o2 = 1) ∧ l.map Pt.pk = partE s src id' i ++ partE t src2 id2 i ∧ PtsAt 0 wr.heap.size wr p l ∧ Below w2.heap.size w2 wr) (fun _ _ _ q _ => n + m - (intOf q).toNat)
      case atStart => exact ⟨0, 0, 0, [], Nat.zero_le _, rfl, rfl, rfl, fun _ => rfl, fun h => by omega, fun _ => rfl, fun h => by omega, by rw [H0.out]; rfl, PtsAt.nil _ _ _, Below.refl _ _⟩
      case round =>
        obtain ⟨i, o1, o2, l, hi, rfl, rfl, rfl, a1, a2, a3, a4, hm, hpts, hb⟩ := hrel
        have hll : l.length ≤ 1000 := by have := congrArg List.length hm; rw [List.length_map] at this; have := HLen.out i i; omega
        have Hll := Lib.hid hll
        have Hm := Lib.hid hm
        have Hpts := Lib.hid hpts
        have Hb := Lib.hid hb
        clear hll hm hpts hb
        by_cases hA : i < n
        · have hAi : (i : Int) < (n : Int) := by omega
          obtain rfl : o1 = 0 := a1 hA
          clear a1 a2
          have c0 := (Hb.out.cell (p := ⟨b, off + i, none⟩) Hbb.out).trans (HCs1.out i hA)
          have HA1 := Lib.hid (add_any u17 l 0 wr.heap.size src (i : Int) (pieceF s id' n i) wr Hpts.out (Nat.le_refl _) Hll.out (by have := HPs.out i hA; omega))
          rw [Hm.out, HAs.out i hA] at HA1
          generalize pieceF s id' n i = x at *
          by_cases hl1 : i + 1 = n
          · rw [if_pos hl1, decide_eq_true hl1] at HA1
            have hq1 : ((i : Int) == (n : Int) - 1) = true := by simp; omega
            have Hl1 := Lib.hid hl1
            clear hl1
            go_wp2_with fail
            refine HA1.out.mono ?_
            rintro e w3 ⟨u3, l3, rfl, hm3, hp3, hb3⟩
            dsimp only at hm3 ⊢
            have Hll3 := Lib.hid (show l3.length ≤ 1000 by have := congrArg List.length hm3; rw [List.length_map] at this; have := HLen.out (i + 1) i; omega)
            have Hm3 := Lib.hid hm3
            have Hp3 := Lib.hid (hp3.wide (Nat.zero_le _) (Nat.le_refl _))
            have Hbx := Lib.hid (bt Hb.out hb3)
            clear hm3 hp3 hb3 c0
            by_cases hB : i < m
            · have hBi : (i : Int) < (m : Int) := by omega
              obtain rfl : o2 = 0 := a3 hB
              clear a3 a4
              have d0 := (Hbx.out.cell (p := ⟨c, ofc + i, none⟩) Hcc.out).trans (HCt1.out i hB)
              have HA2 := Lib.hid (add_any u3 l3 0 w3.heap.size src2 (i : Int) (pieceF t id2 m i) w3 Hp3.out (Nat.le_refl _) Hll3.out (by have := HPt.out i hB; omega))
              rw [Hm3.out, HAt.out (i + 1) i hB] at HA2
              generalize pieceF t id2 m i = y at *
              by_cases hl2 : i + 1 = m
              · rw [if_pos hl2, decide_eq_true hl2] at HA2
                have hq2 : ((i : Int) == (m : Int) - 1) = true := by simp; omega
                have Hl2 := Lib.hid hl2
                clear hl2
                go_wp2_with fail
                refine HA2.out.mono ?_
                rintro e w4 ⟨u4, l4, rfl, hm4, hp4, hb4⟩
                dsimp only at hm4 ⊢
                have Hm4 := Lib.hid hm4
                have Hp4 := Lib.hid (hp4.wide (Nat.zero_le _) (Nat.le_refl _))
                have Hb4 := Lib.hid (bt Hbx.out hb4)
                clear hm4 hp4 hb4 d0
                go_wp2_with fail
                go_roundw
                case rel => exact ⟨i + 1, 1, 1, l4, by omega, by go_num, by go_num, by go_num, fun h => by first | omega | (have := Hl1.out; omega) | (have := Hl2.out; omega), fun h => by first | omega | (have := Hl1.out; omega) | (have := Hl2.out; omega), fun h => by first | omega | (have := Hl1.out; omega) | (have := Hl2.out; omega), fun _ => rfl, Hm4.out, Hp4.out, Hb4.out⟩
                case measure => simp [intOf]; omega
              · rw [if_neg hl2, decide_eq_false hl2, show ByteArray.empty = (⟨#[]⟩ : ByteArray) from rfl] at HA2
                have hq2 : ((i : Int) == (m : Int) - 1) = false := by simp; omega
                go_wp2_with fail
                refine HA2.out.mono ?_
                rintro e w4 ⟨u4, l4, rfl, hm4, hp4, hb4⟩
                dsimp only at hm4 ⊢
                have Hm4 := Lib.hid hm4
                have Hp4 := Lib.hid (hp4.wide (Nat.zero_le _) (Nat.le_refl _))
                have Hb4 := Lib.hid (bt Hbx.out hb4)
                clear hm4 hp4 hb4 d0
                go_wp2_with fail
                go_roundw
                case rel => exact ⟨i + 1, 1, 0, l4, by omega, by go_num, by go_num, by go_num, fun h => by first | omega | (have := Hl1.out; omega) | (have := Hl2.out; omega), fun h => by first | omega | (have := Hl1.out; omega) | (have := Hl2.out; omega), fun _ => rfl, fun h => by first | omega | (have := Hl1.out; omega) | (have := Hl2.out; omega), Hm4.out, Hp4.out, Hb4.out⟩
                case measure => simp [intOf]; omega
            · have hBi : ¬ (i : Int) < (m : Int) := by omega
              obtain rfl : o2 = 1 := a4 (by omega)
              clear a3 a4
              have Hm4 := Lib.hid (show l3.map Pt.pk = partE s src id' (i + 1) ++ partE t src2 id2 (i + 1) by rw [Hm3.out, HEt.out i (by omega), HEt.out (i + 1) (by omega)])
              go_wp2_with fail
              go_roundw
              case rel => exact ⟨i + 1, 1, 1, l3, by omega, by go_num, by go_num, by go_num, fun h => by first | omega | (have := Hl1.out; omega) | (have := Hl2.out; omega), fun h => by first | omega | (have := Hl1.out; omega) | (have := Hl2.out; omega), fun h => by first | omega | (have := Hl1.out; omega) | (have := Hl2.out; omega), fun _ => rfl, Hm4.out, Hp3.out, Hbx.out⟩
              case measure => simp [intOf]; omega
          · rw [if_neg hl1, decide_eq_false hl1, show ByteArray.empty = (⟨#[]⟩ : ByteArray) from rfl] at HA1
            have hq1 : ((i : Int) == (n : Int) - 1) = false := by simp; omega
            go_wp2_with fail
            refine HA1.out.mono ?_
            rintro e w3 ⟨u3, l3, rfl, hm3, hp3, hb3⟩
            dsimp only at hm3 ⊢
            have Hll3 := Lib.hid (show l3.length ≤ 1000 by have := congrArg List.length hm3; rw [List.length_map] at this; have := HLen.out (i + 1) i; omega)
            have Hm3 := Lib.hid hm3
            have Hp3 := Lib.hid (hp3.wide (Nat.zero_le _) (Nat.le_refl _))
            have Hbx := Lib.hid (bt Hb.out hb3)
            clear hm3 hp3 hb3 c0
            by_cases hB : i < m
            · have hBi : (i : Int) < (m : Int) := by omega
              obtain rfl : o2 = 0 := a3 hB
              clear a3 a4
              have d0 := (Hbx.out.cell (p := ⟨c, ofc + i, none⟩) Hcc.out).trans (HCt1.out i hB)
              have HA2 := Lib.hid (add_any u3 l3 0 w3.heap.size src2 (i : Int) (pieceF t id2 m i) w3 Hp3.out (Nat.le_refl _) Hll3.out (by have := HPt.out i hB; omega))
              rw [Hm3.out, HAt.out (i + 1) i hB] at HA2
              generalize pieceF t id2 m i = y at *
              by_cases hl2 : i + 1 = m
              · rw [if_pos hl2, decide_eq_true hl2] at HA2
                have hq2 : ((i : Int) == (m : Int) - 1) = true := by simp; omega
                have Hl2 := Lib.hid hl2
                clear hl2
                go_wp2_with fail
                refine HA2.out.mono ?_
                rintro e w4 ⟨u4, l4, rfl, hm4, hp4, hb4⟩
                dsimp only at hm4 ⊢
                have Hm4 := Lib.hid hm4
                have Hp4 := Lib.hid (hp4.wide (Nat.zero_le _) (Nat.le_refl _))
                have Hb4 := Lib.hid (bt Hbx.out hb4)
                clear hm4 hp4 hb4 d0
                go_wp2_with fail
                go_roundw
                case rel => exact ⟨i + 1, 0, 1, l4, by omega, by go_num, by go_num, by go_num, fun h => by first | omega | (have := Hl1.out; omega) | (have := Hl2.out; omega), fun h => by first | omega | (have := Hl1.out; omega) | (have := Hl2.out; omega), fun h => by first | omega | (have := Hl1.out; omega) | (have := Hl2.out; omega), fun _ => rfl, Hm4.out, Hp4.out, Hb4.out⟩
                case measure => simp [intOf]; omega
              · rw [if_neg hl2, decide_eq_false hl2, show ByteArray.empty = (⟨#[]⟩ : ByteArray) from rfl] at HA2
                have hq2 : ((i : Int) == (m : Int) - 1) = false := by simp; omega
                go_wp2_with fail
                refine HA2.out.mono ?_
                rintro e w4 ⟨u4, l4, rfl, hm4, hp4, hb4⟩
                dsimp only at hm4 ⊢
                have Hm4 := Lib.hid hm4
                have Hp4 := Lib.hid (hp4.wide (Nat.zero_le _) (Nat.le_refl _))
                have Hb4 := Lib.hid (bt Hbx.out hb4)
                clear hm4 hp4 hb4 d0
                go_wp2_with fail
                go_roundw
                case rel => exact ⟨i + 1, 0, 0, l4, by omega, by go_num, by go_num, by go_num, fun h => by first | omega | (have := Hl1.out; omega) | (have := Hl2.out; omega), fun h => by first | omega | (have := Hl1.out; omega) | (have := Hl2.out; omega), fun _ => rfl, fun h => by first | omega | (have := Hl1.out; omega) | (have := Hl2.out; omega), Hm4.out, Hp4.out, Hb4.out⟩
                case measure => simp [intOf]; omega
            · have hBi : ¬ (i : Int) < (m : Int) := by omega
              obtain rfl : o2 = 1 := a4 (by omega)
              clear a3 a4
              have Hm4 := Lib.hid (show l3.map Pt.pk = partE s src id' (i + 1) ++ partE t src2 id2 (i + 1) by rw [Hm3.out, HEt.out i (by omega), HEt.out (i + 1) (by omega)])
              go_wp2_with fail
              go_roundw
              case rel => exact ⟨i + 1, 0, 1, l3, by omega, by go_num, by go_num, by go_num, fun h => by first | omega | (have := Hl1.out; omega) | (have := Hl2.out; omega), fun h => by first | omega | (have := Hl1.out; omega) | (have := Hl2.out; omega), fun h => by first | omega | (have := Hl1.out; omega) | (have := Hl2.out; omega), fun _ => rfl, Hm4.out, Hp3.out, Hbx.out⟩
              case measure => simp [intOf]; omega
        · have hAi : ¬ (i : Int) < (n : Int) := by omega
          obtain rfl : o1 = 1 := a2 (by omega)
          clear a1 a2
          by_cases hB : i < m
          · have hBi : (i : Int) < (m : Int) := by omega
            obtain rfl : o2 = 0 := a3 hB
            clear a3 a4
            have d0 := (Hb.out.cell (p := ⟨c, ofc + i, none⟩) Hcc.out).trans (HCt1.out i hB)
            have HA2 := Lib.hid (add_any u17 l 0 wr.heap.size src2 (i : Int) (pieceF t id2 m i) wr Hpts.out (Nat.le_refl _) Hll.out (by have := HPt.out i hB; omega))
            rw [Hm.out, HAt.out i i hB] at HA2
            rw [HEs.out i (by omega), ← HEs.out (i + 1) (by omega)] at HA2
            generalize pieceF t id2 m i = y at *
            have Hbx := Hb
            by_cases hl2 : i + 1 = m
            · rw [if_pos hl2, decide_eq_true hl2] at HA2
              have hq2 : ((i : Int) == (m : Int) - 1) = true := by simp; omega
              have Hl2 := Lib.hid hl2
              clear hl2
              go_wp2_with fail
              refine HA2.out.mono ?_
              rintro e w4 ⟨u4, l4, rfl, hm4, hp4, hb4⟩
              dsimp only at hm4 ⊢
              have Hm4 := Lib.hid hm4
              have Hp4 := Lib.hid (hp4.wide (Nat.zero_le _) (Nat.le_refl _))
              have Hb4 := Lib.hid (bt Hbx.out hb4)
              clear hm4 hp4 hb4 d0
              go_wp2_with fail
              go_roundw
              case rel => exact ⟨i + 1, 1, 1, l4, by omega, by go_num, by go_num, by go_num, fun h => by first | omega | (have := Hl1.out; omega) | (have := Hl2.out; omega), fun h => by first | omega | (have := Hl1.out; omega) | (have := Hl2.out; omega), fun h => by first | omega | (have := Hl1.out; omega) | (have := Hl2.out; omega), fun _ => rfl, Hm4.out, Hp4.out, Hb4.out⟩
              case measure => simp [intOf]; omega
            · rw [if_neg hl2, decide_eq_false hl2, show ByteArray.empty = (⟨#[]⟩ : ByteArray) from rfl] at HA2
              have hq2 : ((i : Int) == (m : Int) - 1) = false := by simp; omega
              go_wp2_with fail
              refine HA2.out.mono ?_
              rintro e w4 ⟨u4, l4, rfl, hm4, hp4, hb4⟩
              dsimp only at hm4 ⊢
              have Hm4 := Lib.hid hm4
              have Hp4 := Lib.hid (hp4.wide (Nat.zero_le _) (Nat.le_refl _))
              have Hb4 := Lib.hid (bt Hbx.out hb4)
              clear hm4 hp4 hb4 d0
              go_wp2_with fail
              go_roundw
              case rel => exact ⟨i + 1, 1, 0, l4, by omega, by go_num, by go_num, by go_num, fun h => by first | omega | (have := Hl1.out; omega) | (have := Hl2.out; omega), fun h => by first | omega | (have := Hl1.out; omega) | (have := Hl2.out; omega), fun _ => rfl, fun h => by first | omega | (have := Hl1.out; omega) | (have := Hl2.out; omega), Hm4.out, Hp4.out, Hb4.out⟩
              case measure => simp [intOf]; omega
          · have hBi : ¬ (i : Int) < (m : Int) := by omega
            obtain rfl : o2 = 1 := a4 (by omega)
            clear a3 a4
            have hl0 : l = [] := by
              have := Hm.out
              rw [HEs.out i (by omega), HEt.out i (by omega)] at this
              exact List.map_eq_nil_iff.1 this
            subst hl0
            obtain ⟨⟨a9, c9, rfl, -⟩, -⟩ := id Hpts.out
            have HBe := Lib.hid (bt HB2.out Hb.out)
            clear Hpts Hm Hll Hb
            go_wp2_with (refine (awake_any _).mono ?_; rintro e w4 ⟨rfl, hb4⟩)
            go_ret
            exact ⟨rfl, bt HBe.out hb4⟩
end Go.Proofs.Ytmjamjadfnbkdaa
