/-
  Fragments: the walk of the law on the pieces of one message, added in any order.
-/
import Derived.Test.YtmjamjadfnbkdaaFuf
open Go Go.RowKit Go.Proofs
namespace Go.Proofs.Ytmjamjadfnbkdaa
open Hub

set_option maxRecDepth 20000 in
set_option maxHeartbeats 8000000 in
theorem lawReturns (s : ByteArray) (id' src : Int) (v : Value) (l : List Int) (w : World) (_hs : s.size ≤ maxLen) (_h0 : -9223372036854775808 ≤ id') (_h1 : id' ≤ 9223372036854775807) (_h2 : -9223372036854775808 ≤ src) (_h3 : src ≤ 9223372036854775807)
    (hv : IntsAt 0 w.heap.size w v l) (hB : IntB l) (_hl : l.length ≤ maxLen) :
    Calls Try.prog 7 #[.string s, .int .i64 id', .int .i64 src, v] w fun e w' => e = .returned (.bool true) ∧ Below w.heap.size w w' := by
  clear _h0 _h1 _h2 _h3
  obtain ⟨a, cap0, rfl, hc⟩ := hv
  obtain ⟨M, hM⟩ : ∃ M, l.length = M := ⟨_, rfl⟩
  rw [hM]
  clear _hl
  by_cases hj : 1000 < s.size
  · have hji : (1000 : Int) < (s.size : Int) := by omega
    have HS := Lib.hid (fun W => splitBig_any s id' W hj)
    clear _hs hc hB hM
    go_enter Try.func7, Try.ntmps7
    go_wp2_with (go_at_call 12; refine (HS.out _).mono ?_; rintro e w1 ⟨rfl, rfl⟩)
    refine (awake_any _).mono ?_
    rintro e w2 ⟨rfl, hb⟩
    go_wp2_with fail
    go_ret
    exact ⟨rfl, hb⟩
  · have hji : ¬ (1000 : Int) < (s.size : Int) := by omega
    clear _hs
    by_cases hbad : id' < 0 ∨ 255 < id' ∨ 100 < M
    · have HS := Lib.hid (fun W => split_any s id' W (by omega))
      generalize splitF s id' = R at *
      clear hc hB hM
      have go : ∀ (P : Prop) [Decidable P], P ∨ ¬ P := fun P _ => Decidable.em P
      by_cases q0 : id' < 0
      · clear hbad
        go_enter Try.func7, Try.ntmps7
        go_wp2_with (go_at_call 12; refine (HS.out _).mono ?_; rintro e w1 ⟨u1, rfl, -, hb1⟩)
        refine (awake_any _).mono ?_
        rintro e w2 ⟨rfl, hb⟩
        go_wp2_with fail
        go_ret
        exact ⟨rfl, bt hb1 hb⟩
      · by_cases q1 : 255 < id'
        · clear hbad
          go_enter Try.func7, Try.ntmps7
          go_wp2_with (go_at_call 12; refine (HS.out _).mono ?_; rintro e w1 ⟨u1, rfl, -, hb1⟩)
          refine (awake_any _).mono ?_
          rintro e w2 ⟨rfl, hb⟩
          go_wp2_with fail
          go_ret
          exact ⟨rfl, bt hb1 hb⟩
        · have q2 : (100 : Int) < (M : Int) := by omega
          clear hbad
          go_enter Try.func7, Try.ntmps7
          go_wp2_with (go_at_call 12; refine (HS.out _).mono ?_; rintro e w1 ⟨u1, rfl, -, hb1⟩)
          refine (awake_any _).mono ?_
          rintro e w2 ⟨rfl, hb⟩
          go_wp2_with fail
          go_ret
          exact ⟨rfl, bt hb1 hb⟩
    · have q0 : ¬ id' < 0 := by omega
      have q1 : ¬ 255 < id' := by omega
      have hM100 : M ≤ 100 := by omega
      have q2 : ¬ (100 : Int) < (M : Int) := by omega
      have hs : s.size ≤ 1000 := by omega
      clear hbad
      have HS := Lib.hid (fun W => split_any s id' W (by omega))
      rw [splitF_ok hs (by omega) (by omega)] at HS
      have HC := Lib.hid (fun lo N w v => pcs_cells (s := s) (id' := id') (lo := lo) (N := N) (w := w) (v := v))
      have HP := Lib.hid (fun k (hk : k < cntS s) => (piece_facts (id' := id') hs (by omega) (by omega) hk).2.1)
      have HH := Lib.hid (fun L sn k now h ha hk => held_add (s := s) (src := src) (id' := id') (L := L) (sn := sn) (k := k) (now := now) hs (by omega) (by omega) h ha hk)
      have HL := Lib.hid (fun L sn (h : Held s src id' L sn) => h.len)
      have H0 := Lib.hid (Held.start s src id')
      have HM := Lib.hid hM
      have HBI := Lib.hid hB
      have HOr := Lib.hid hc
      have n1 := cntS_pos s
      have n16 := cntS_le s hs
      have hss : (s.toList == s.toList) = true := beq_self_eq_true _
      have hss2 : (!(s.toList == s.toList)) = false := by rw [hss]; rfl
      generalize cntS s = n at *
      clear hM hB hc hs
      obtain ⟨j0, hj0, hy0, hy1, hy2⟩ := info_parts bool_info
      have mB := fun W => run_make_row (P := Try.prog) 38 4 j0 (.bool false) Try.underlying38 hj0 hy0 hy1 rfl .i64 .i64 n (by rw [hy2]; omega) (by omega) W
      rw [made_one] at mB
      have eB : (List.replicate n (Value.bool false)).toArray = Array.replicate n (Value.bool false) := by simp
      simp only [eB] at mB
      clear eB hj0 hy0 hy1 hy2
      go_enter Try.func7, Try.ntmps7
      go_wp2_with (go_at_call 12; refine (HS.out _).mono ?_; rintro e w1 ⟨u, rfl, hu, hb1⟩; obtain ⟨b, off, cap, rfl, hbb, hcell⟩ := HC.out _ _ _ _ hu; have hb1h := Lib.hid hb1; have hch := Lib.hid hcell; clear hu hb1 hcell)
      obtain ⟨W0, hW0⟩ : ∃ W, W = w1.alloc (.cells (Array.replicate n (Value.bool false)) 4) := ⟨_, rfl⟩
      have hR0 : RowAt W0 w1.heap.size 4 ((List.replicate n false).map Value.bool) := by rw [hW0]; exact bObj_row w1 n
      have hO0 : OwnT W0 w1.heap.size (.slice (some ⟨w1.heap.size, 0, none⟩) n n) (List.replicate n false) := hR0.ownT (by simp) (Nat.le_refl _) (by unfold maxLen; omega)
      have hB0 : Below w1.heap.size w1 W0 := by rw [hW0]; exact below_box _ _
      have hG0 : w1.heap.size < W0.heap.size := by rw [hW0, World.size_alloc]; exact Nat.lt_succ_self _
      have HO0 := Lib.hid hO0
      have HB0 := Lib.hid hB0
      rw [← hW0]
      clear hR0 hO0 hB0 mB hW0 HS HC
      obtain ⟨g, hg⟩ : ∃ g, g = w1.heap.size := ⟨_, rfl⟩
      rw [← hg] at HO0 HB0 hG0 hbb ⊢
      have Hg := Lib.hid hg
      have HG0 := Lib.hid hG0
      have Hbb := Lib.hid hbb
      clear hg hG0 hbb
      go_loopw [11, 13, 14] (fun p q13 q14 wr => ∃ (i lf : Nat) (sn : List Bool) (m : List Pt), i ≤ M + n ∧ q14 = .int .i64 i ∧ q13 = .int .i64 lf ∧ arrF sn + lf = n ∧ sn.length = n ∧ ((sn.all id = true) ∨ Held s src id' (m.map Pt.pk) sn) ∧ m.length ≤ 1 ∧ (∀ k, k < n → k + M < i → sn.getD k false = true) ∧ OwnT wr g (.slice (some ⟨g, 0, none⟩) n n) sn ∧ PtsAt (g + 1) wr.heap.size wr p m ∧ Below g w1 wr) (fun _ _ q _ => M + n - (intOf q).toNat)
      case atStart => exact ⟨0, n, _, [], Nat.zero_le _, rfl, rfl, by rw [arr_none]; omega, by simp, .inr H0.out, by simp, fun k _ h => by omega, HO0.out, PtsAt.nil _ _ _, HB0.out⟩
      case round =>
        obtain ⟨i, lf, sn, m, hi, rfl, rfl, harr, hsl, hst, hml, hsee, hown, hpts, hb⟩ := hrel
        by_cases hlf : lf = 0
        · subst hlf
          have HB := Lib.hid (bt hb1h.out (show Below w1.heap.size w1 wr by rw [← Hg.out]; exact hb))
          clear hst hown hpts hb harr hsl hml hsee
          by_cases hiM : (i : Int) < (M : Int) + (n : Int)
          · go_wp2_with (refine (awake_any _).mono ?_; rintro e w4 ⟨rfl, hb4⟩)
            go_ret
            exact ⟨rfl, bt HB.out hb4⟩
          · go_wp2_with (refine (awake_any _).mono ?_; rintro e w4 ⟨rfl, hb4⟩)
            go_ret
            exact ⟨rfl, bt HB.out hb4⟩
        · have hall : sn.all id = false := by
            cases e : sn.all id with
            | false => rfl
            | true => have := arr_all' e; omega
          have hheld : Held s src id' (m.map Pt.pk) sn := hst.resolve_left (by rw [hall]; decide)
          have hiM : i < M + n := by
            rcases Nat.lt_or_ge i (M + n) with h | h
            · exact h
            · exfalso
              have := all_seenN hsl (fun k hk => hsee k hk (by omega))
              rw [hall] at this; cases this
          have hiMi : (i : Int) < (M : Int) + (n : Int) := by omega
          obtain ⟨q, rfl⟩ : ∃ q, lf = q + 1 := ⟨lf - 1, by omega⟩
          have hlfi : (0 : Int) < ((q + 1 : Nat) : Int) := by omega
          have hlfd : ((q + 1 : Nat) : Int) - 1 = (q : Int) := by omega
          have hqn : q ≤ 16 := by omega
          have Hsee := Lib.hid hsee
          have Harr := Lib.hid harr
          have Hsl := Lib.hid hsl
          have Hall := Lib.hid hall
          have Hheld := Lib.hid hheld
          have Hown := Lib.hid hown
          have Hpts := Lib.hid hpts
          have Hb := Lib.hid hb
          have Hml := Lib.hid hml
          clear hst hsee hlf harr hsl hall hheld hown hpts hb hml
          have hn0 : (0 : Int) < (n : Int) := by omega
          by_cases hio : i < M
          · have hioi : (i : Int) < (M : Int) := by omega
            have hil : i < l.length := by rw [HM.out]; exact hio
            obtain ⟨bo, oo, rfl, -, hbo, hcl⟩ := HOr.out (by intro e; rw [e] at hil; simp at hil)
            have hbw : bo < w1.heap.size := Nat.lt_of_lt_of_le hbo hb1h.out.size
            have c1 : wr.cell? ⟨bo, oo + i, none⟩ = some (.int .i64 l[i]) := ((show Below w1.heap.size w1 wr by rw [← Hg.out]; exact Hb.out).cell (p := ⟨bo, oo + i, none⟩) hbw).trans ((hb1h.out.cell (p := ⟨bo, oo + i, none⟩) hbo).trans (hcl i hil))
            have hx := HBI.out l[i] (List.getElem_mem hil)
            have hr1 := tmod_lo l[i] (show 0 < n by omega)
            have hr2 := tmod_hi l[i] (show 0 < n by omega)
            clear hcl hbw hbo
            generalize l[i] = x at *
            obtain ⟨x1, x2⟩ := hx
            obtain ⟨r, hr⟩ : ∃ r, x.tmod (n : Int) = r := ⟨_, rfl⟩
            rw [hr] at hr1 hr2
            by_cases hr0 : r < 0
            · obtain ⟨k, hk⟩ := Int.eq_ofNat_of_zero_le (show 0 ≤ r + (n : Int) by omega)
              have hkn : k < n := by omega
              have hni : ¬ (k : Nat) + M < i := by omega
              have hkl : k < sn.length := by rw [Hsl.out]; exact hkn
              have hkni : (k : Int) < (n : Int) := by omega
              obtain ⟨y1, y2⟩ := Hown.out.at k hkl
              have c0 : wr.cell? ⟨b, off + k, none⟩ = some (.string (pieceF s id' n k)) := (Hb.out.cell (p := ⟨b, off + k, none⟩) Hbb.out).trans (hch.out k hkn)
              have hxs := HP.out k hkn
              have T1 : Tch g wr (wr.setCell ⟨g, k, none⟩ (.bool true)) := (Tch.refl _ _).setCell k _
              have hP2 : PtsAt (g + 1) wr.heap.size (wr.setCell ⟨g, k, none⟩ (.bool true)) u11 m := Hpts.out.tch T1 (Nat.lt_succ_self g) (Nat.le_refl _)
              have hO2 := setOwnT (i := k) Hown.out true
              have hB2 : Below g w1 (wr.setCell ⟨g, k, none⟩ (.bool true)) := tch_new Hb.out T1 (Nat.le_refl _) (by rw [Hg.out]; exact Nat.le_refl _)
              have hGl : g < (wr.setCell ⟨g, k, none⟩ (.bool true)).heap.size := Nat.lt_of_lt_of_le (World.ownsRow.lt Hown.out g rfl).2 T1.size
              have hcx := (tch_cell T1 (p := ⟨b, off + k, none⟩) (Nat.lt_of_lt_of_le (Nat.lt_trans Hbb.out (Nat.lt_of_le_of_lt (Nat.le_refl _) (World.ownsRow.lt Hown.out g rfl).2)) (Nat.le_refl _)) (by have := Hbb.out; show b ≠ g; omega)).trans c0
              obtain ⟨W, hW⟩ : ∃ W, W = wr.setCell ⟨g, k, none⟩ (.bool true) := ⟨_, rfl⟩
              have hsz : wr.heap.size ≤ W.heap.size := by rw [hW]; exact T1.size
              rw [← hW] at hP2 hO2 hB2 hGl
              have HA := Lib.hid (add_any u11 m (g + 1) wr.heap.size src (i : Int) (pieceF s id' n k) W hP2 hsz (by have := Hml.out; omega) (by omega))
              have HHk := Lib.hid (HH.out (m.map Pt.pk) sn k (i : Int) Hheld.out Hall.out hkn)
              have HW := Lib.hid hW
              have HO2 := Lib.hid hO2
              have HB2 := Lib.hid hB2
              have HGl := Lib.hid hGl
              have hkk : ((0 : Int) == 0) = true := rfl
              generalize pieceF s id' n k = x' at *
              clear T1 hP2 hO2 hB2 hGl hsz hW hxs
              cases hbx : sn[k] with
              | true =>
                rw [hbx] at y1
                have hsame := set_same hkl hbx
                rw [hsame] at HHk HO2
                obtain ⟨L', hadd, hlen, hheld⟩ : ∃ L', addF (m.map Pt.pk) src (i : Int) x' = ((L', ByteArray.empty, false), 0) ∧ L'.length = 1 ∧ Held s src id' L' sn := by
                  rcases HHk.out with ⟨h, _⟩ | ⟨_, h⟩
                  · rw [Hall.out] at h; cases h
                  · exact h
                rw [hadd] at HA
                have Hheld2 := Lib.hid hheld
                have Hlen := Lib.hid hlen
                clear hbx hsame hadd hheld hlen HHk
                go_wp2_with fail
                rw [← HW.out]
                refine HA.out.mono ?_
                rintro e w5 ⟨u5, m5, rfl, hm5, hp5, hb5⟩
                dsimp only at hm5 ⊢
                have hl5 : m5.length = 1 := by have := congrArg List.length hm5; rw [List.length_map, Hlen.out] at this; exact this
                have Hm5 := Lib.hid hm5
                have Hp5 := Lib.hid hp5
                have Hb5 := Lib.hid hb5
                have Hl5 := Lib.hid hl5
                obtain ⟨⟨a5, c5, rfl, -⟩, -⟩ := hp5
                have hq0 : (((q + 1 : Nat) : Int) == 0) = false := by simp; omega
                rw [show ByteArray.empty = (⟨#[]⟩ : ByteArray) from rfl]
                rw [hl5] at Hp5 ⊢
                clear hm5 hb5 hl5 hcx c0 y1 y2
                go_wp2_with fail
                go_roundw
                case rel => exact ⟨i + 1, q + 1, sn, m5, by omega, by go_num, rfl, Harr.out, Hsl.out, .inr (by rw [Hm5.out]; exact Hheld2.out), by rw [Hl5.out]; exact Nat.le_refl _, fun j hj hji => (by
                    by_cases e : j + M < i
                    · exact Hsee.out j hj e
                    · exfalso; omega), HO2.out.below Hb5.out (Nat.le_refl _), Hp5.out.wide HGl.out (Nat.le_refl _), HB2.out.trans (Hb5.out.mono (Nat.le_of_lt HGl.out))⟩
                case measure => simp [intOf]; omega
              | false =>
                rw [hbx] at y1
                have harr2 := arr_set hkl hbx
                have Harr2 := Lib.hid (show arrF (sn.set k true) + q = n by rw [harr2]; have := Harr.out; omega)
                have Hsl2 := Lib.hid (show (sn.set k true).length = n by rw [List.length_set]; exact Hsl.out)
                have Hsee2 := Lib.hid (fun j (hj : j < n) (hji : j + M < i + 1) => (show (sn.set k true).getD j false = true from by
                  by_cases e : j = k
                  · rw [e]; exact seen_here hkl
                  · exact seen_set (Hsee.out j hj (by omega))))
                clear harr2 hbx
                rcases HHk.out with ⟨hall, hadd⟩ | ⟨hall, L', hadd, hlen, hheld⟩
                · rw [hadd] at HA
                  have hqz : q = 0 := by have := arr_all' hall; have := Harr2.out; have := Hsl2.out; omega
                  subst hqz
                  have Hall2 := Lib.hid hall
                  clear hadd hall HHk
                  go_wp2_with fail
                  rw [← HW.out]
                  refine HA.out.mono ?_
                  rintro e w5 ⟨u5, m5, rfl, hm5, hp5, hb5⟩
                  dsimp only at hm5 ⊢
                  obtain rfl : m5 = [] := List.map_eq_nil_iff.1 hm5
                  have Hp5 := Lib.hid hp5
                  have Hb5 := Lib.hid hb5
                  obtain ⟨⟨a5, c5, rfl, -⟩, -⟩ := hp5
                  clear hm5 hb5 hcx c0 y1 y2
                  go_wp2_with fail
                  go_roundw
                  case rel => exact ⟨i + 1, 0, sn.set k true, [], by omega, by go_num, by go_num, Harr2.out, Hsl2.out, .inl Hall2.out, by simp, Hsee2.out, HO2.out.below Hb5.out (Nat.le_refl _), Hp5.out.wide HGl.out (Nat.le_refl _), HB2.out.trans (Hb5.out.mono (Nat.le_of_lt HGl.out))⟩
                  case measure => simp [intOf]; omega
                · rw [hadd] at HA
                  have hqz : q ≠ 0 := by
                    intro e
                    have := all_of_arr (sn := sn.set k true) (by have := Harr2.out; have := Hsl2.out; omega)
                    rw [hall] at this; cases this
                  have hq0 : ((q : Int) == 0) = false := by simp; omega
                  have Hheld2 := Lib.hid hheld
                  have Hlen := Lib.hid hlen
                  clear hadd hheld hlen HHk hall hqz
                  go_wp2_with fail
                  rw [← HW.out]
                  refine HA.out.mono ?_
                  rintro e w5 ⟨u5, m5, rfl, hm5, hp5, hb5⟩
                  dsimp only at hm5 ⊢
                  have hl5 : m5.length = 1 := by have := congrArg List.length hm5; rw [List.length_map, Hlen.out] at this; exact this
                  have Hm5 := Lib.hid hm5
                  have Hp5 := Lib.hid hp5
                  have Hb5 := Lib.hid hb5
                  have Hl5 := Lib.hid hl5
                  obtain ⟨⟨a5, c5, rfl, -⟩, -⟩ := hp5
                  rw [show ByteArray.empty = (⟨#[]⟩ : ByteArray) from rfl]
                  rw [hl5] at Hp5 ⊢
                  clear hm5 hb5 hl5 hcx c0 y1 y2
                  go_wp2_with fail
                  go_roundw
                  case rel => exact ⟨i + 1, q, sn.set k true, m5, by omega, by go_num, by go_num, Harr2.out, Hsl2.out, .inr (by rw [Hm5.out]; exact Hheld2.out), by rw [Hl5.out]; exact Nat.le_refl _, Hsee2.out, HO2.out.below Hb5.out (Nat.le_refl _), Hp5.out.wide HGl.out (Nat.le_refl _), HB2.out.trans (Hb5.out.mono (Nat.le_of_lt HGl.out))⟩
                  case measure => simp [intOf]; omega
            · obtain ⟨k, rfl⟩ := Int.eq_ofNat_of_zero_le (show 0 ≤ r by omega)
              have hkn : k < n := by omega
              have hni : ¬ (k : Nat) + M < i := by omega
              have hkl : k < sn.length := by rw [Hsl.out]; exact hkn
              have hkni : (k : Int) < (n : Int) := by omega
              obtain ⟨y1, y2⟩ := Hown.out.at k hkl
              have c0 : wr.cell? ⟨b, off + k, none⟩ = some (.string (pieceF s id' n k)) := (Hb.out.cell (p := ⟨b, off + k, none⟩) Hbb.out).trans (hch.out k hkn)
              have hxs := HP.out k hkn
              have T1 : Tch g wr (wr.setCell ⟨g, k, none⟩ (.bool true)) := (Tch.refl _ _).setCell k _
              have hP2 : PtsAt (g + 1) wr.heap.size (wr.setCell ⟨g, k, none⟩ (.bool true)) u11 m := Hpts.out.tch T1 (Nat.lt_succ_self g) (Nat.le_refl _)
              have hO2 := setOwnT (i := k) Hown.out true
              have hB2 : Below g w1 (wr.setCell ⟨g, k, none⟩ (.bool true)) := tch_new Hb.out T1 (Nat.le_refl _) (by rw [Hg.out]; exact Nat.le_refl _)
              have hGl : g < (wr.setCell ⟨g, k, none⟩ (.bool true)).heap.size := Nat.lt_of_lt_of_le (World.ownsRow.lt Hown.out g rfl).2 T1.size
              have hcx := (tch_cell T1 (p := ⟨b, off + k, none⟩) (Nat.lt_of_lt_of_le (Nat.lt_trans Hbb.out (Nat.lt_of_le_of_lt (Nat.le_refl _) (World.ownsRow.lt Hown.out g rfl).2)) (Nat.le_refl _)) (by have := Hbb.out; show b ≠ g; omega)).trans c0
              obtain ⟨W, hW⟩ : ∃ W, W = wr.setCell ⟨g, k, none⟩ (.bool true) := ⟨_, rfl⟩
              have hsz : wr.heap.size ≤ W.heap.size := by rw [hW]; exact T1.size
              rw [← hW] at hP2 hO2 hB2 hGl
              have HA := Lib.hid (add_any u11 m (g + 1) wr.heap.size src (i : Int) (pieceF s id' n k) W hP2 hsz (by have := Hml.out; omega) (by omega))
              have HHk := Lib.hid (HH.out (m.map Pt.pk) sn k (i : Int) Hheld.out Hall.out hkn)
              have HW := Lib.hid hW
              have HO2 := Lib.hid hO2
              have HB2 := Lib.hid hB2
              have HGl := Lib.hid hGl
              have hkk : ((0 : Int) == 0) = true := rfl
              generalize pieceF s id' n k = x' at *
              clear T1 hP2 hO2 hB2 hGl hsz hW hxs
              cases hbx : sn[k] with
              | true =>
                rw [hbx] at y1
                have hsame := set_same hkl hbx
                rw [hsame] at HHk HO2
                obtain ⟨L', hadd, hlen, hheld⟩ : ∃ L', addF (m.map Pt.pk) src (i : Int) x' = ((L', ByteArray.empty, false), 0) ∧ L'.length = 1 ∧ Held s src id' L' sn := by
                  rcases HHk.out with ⟨h, _⟩ | ⟨_, h⟩
                  · rw [Hall.out] at h; cases h
                  · exact h
                rw [hadd] at HA
                have Hheld2 := Lib.hid hheld
                have Hlen := Lib.hid hlen
                clear hbx hsame hadd hheld hlen HHk
                go_wp2_with fail
                rw [← HW.out]
                refine HA.out.mono ?_
                rintro e w5 ⟨u5, m5, rfl, hm5, hp5, hb5⟩
                dsimp only at hm5 ⊢
                have hl5 : m5.length = 1 := by have := congrArg List.length hm5; rw [List.length_map, Hlen.out] at this; exact this
                have Hm5 := Lib.hid hm5
                have Hp5 := Lib.hid hp5
                have Hb5 := Lib.hid hb5
                have Hl5 := Lib.hid hl5
                obtain ⟨⟨a5, c5, rfl, -⟩, -⟩ := hp5
                have hq0 : (((q + 1 : Nat) : Int) == 0) = false := by simp; omega
                rw [show ByteArray.empty = (⟨#[]⟩ : ByteArray) from rfl]
                rw [hl5] at Hp5 ⊢
                clear hm5 hb5 hl5 hcx c0 y1 y2
                go_wp2_with fail
                go_roundw
                case rel => exact ⟨i + 1, q + 1, sn, m5, by omega, by go_num, rfl, Harr.out, Hsl.out, .inr (by rw [Hm5.out]; exact Hheld2.out), by rw [Hl5.out]; exact Nat.le_refl _, fun j hj hji => (by
                    by_cases e : j + M < i
                    · exact Hsee.out j hj e
                    · exfalso; omega), HO2.out.below Hb5.out (Nat.le_refl _), Hp5.out.wide HGl.out (Nat.le_refl _), HB2.out.trans (Hb5.out.mono (Nat.le_of_lt HGl.out))⟩
                case measure => simp [intOf]; omega
              | false =>
                rw [hbx] at y1
                have harr2 := arr_set hkl hbx
                have Harr2 := Lib.hid (show arrF (sn.set k true) + q = n by rw [harr2]; have := Harr.out; omega)
                have Hsl2 := Lib.hid (show (sn.set k true).length = n by rw [List.length_set]; exact Hsl.out)
                have Hsee2 := Lib.hid (fun j (hj : j < n) (hji : j + M < i + 1) => (show (sn.set k true).getD j false = true from by
                  by_cases e : j = k
                  · rw [e]; exact seen_here hkl
                  · exact seen_set (Hsee.out j hj (by omega))))
                clear harr2 hbx
                rcases HHk.out with ⟨hall, hadd⟩ | ⟨hall, L', hadd, hlen, hheld⟩
                · rw [hadd] at HA
                  have hqz : q = 0 := by have := arr_all' hall; have := Harr2.out; have := Hsl2.out; omega
                  subst hqz
                  have Hall2 := Lib.hid hall
                  clear hadd hall HHk
                  go_wp2_with fail
                  rw [← HW.out]
                  refine HA.out.mono ?_
                  rintro e w5 ⟨u5, m5, rfl, hm5, hp5, hb5⟩
                  dsimp only at hm5 ⊢
                  obtain rfl : m5 = [] := List.map_eq_nil_iff.1 hm5
                  have Hp5 := Lib.hid hp5
                  have Hb5 := Lib.hid hb5
                  obtain ⟨⟨a5, c5, rfl, -⟩, -⟩ := hp5
                  clear hm5 hb5 hcx c0 y1 y2
                  go_wp2_with fail
                  go_roundw
                  case rel => exact ⟨i + 1, 0, sn.set k true, [], by omega, by go_num, by go_num, Harr2.out, Hsl2.out, .inl Hall2.out, by simp, Hsee2.out, HO2.out.below Hb5.out (Nat.le_refl _), Hp5.out.wide HGl.out (Nat.le_refl _), HB2.out.trans (Hb5.out.mono (Nat.le_of_lt HGl.out))⟩
                  case measure => simp [intOf]; omega
                · rw [hadd] at HA
                  have hqz : q ≠ 0 := by
                    intro e
                    have := all_of_arr (sn := sn.set k true) (by have := Harr2.out; have := Hsl2.out; omega)
                    rw [hall] at this; cases this
                  have hq0 : ((q : Int) == 0) = false := by simp; omega
                  have Hheld2 := Lib.hid hheld
                  have Hlen := Lib.hid hlen
                  clear hadd hheld hlen HHk hall hqz
                  go_wp2_with fail
                  rw [← HW.out]
                  refine HA.out.mono ?_
                  rintro e w5 ⟨u5, m5, rfl, hm5, hp5, hb5⟩
                  dsimp only at hm5 ⊢
                  have hl5 : m5.length = 1 := by have := congrArg List.length hm5; rw [List.length_map, Hlen.out] at this; exact this
                  have Hm5 := Lib.hid hm5
                  have Hp5 := Lib.hid hp5
                  have Hb5 := Lib.hid hb5
                  have Hl5 := Lib.hid hl5
                  obtain ⟨⟨a5, c5, rfl, -⟩, -⟩ := hp5
                  rw [show ByteArray.empty = (⟨#[]⟩ : ByteArray) from rfl]
                  rw [hl5] at Hp5 ⊢
                  clear hm5 hb5 hl5 hcx c0 y1 y2
                  go_wp2_with fail
                  go_roundw
                  case rel => exact ⟨i + 1, q, sn.set k true, m5, by omega, by go_num, by go_num, Harr2.out, Hsl2.out, .inr (by rw [Hm5.out]; exact Hheld2.out), by rw [Hl5.out]; exact Nat.le_refl _, Hsee2.out, HO2.out.below Hb5.out (Nat.le_refl _), Hp5.out.wide HGl.out (Nat.le_refl _), HB2.out.trans (Hb5.out.mono (Nat.le_of_lt HGl.out))⟩
                  case measure => simp [intOf]; omega
          · have hioi : ¬ (i : Int) < (M : Int) := by omega
            obtain ⟨k, hke⟩ : ∃ k, i = k + M := ⟨i - M, by omega⟩
            have hkn : k < n := by omega
            have hki : (i : Int) - (M : Int) = (k : Int) := by omega
            have Hke := Lib.hid hke
            clear hke
            have hkl : k < sn.length := by rw [Hsl.out]; exact hkn
            have hkni : (k : Int) < (n : Int) := by omega
            obtain ⟨y1, y2⟩ := Hown.out.at k hkl
            have c0 : wr.cell? ⟨b, off + k, none⟩ = some (.string (pieceF s id' n k)) := (Hb.out.cell (p := ⟨b, off + k, none⟩) Hbb.out).trans (hch.out k hkn)
            have hxs := HP.out k hkn
            have T1 : Tch g wr (wr.setCell ⟨g, k, none⟩ (.bool true)) := (Tch.refl _ _).setCell k _
            have hP2 : PtsAt (g + 1) wr.heap.size (wr.setCell ⟨g, k, none⟩ (.bool true)) u11 m := Hpts.out.tch T1 (Nat.lt_succ_self g) (Nat.le_refl _)
            have hO2 := setOwnT (i := k) Hown.out true
            have hB2 : Below g w1 (wr.setCell ⟨g, k, none⟩ (.bool true)) := tch_new Hb.out T1 (Nat.le_refl _) (by rw [Hg.out]; exact Nat.le_refl _)
            have hGl : g < (wr.setCell ⟨g, k, none⟩ (.bool true)).heap.size := Nat.lt_of_lt_of_le (World.ownsRow.lt Hown.out g rfl).2 T1.size
            have hcx := (tch_cell T1 (p := ⟨b, off + k, none⟩) (Nat.lt_of_lt_of_le (Nat.lt_trans Hbb.out (Nat.lt_of_le_of_lt (Nat.le_refl _) (World.ownsRow.lt Hown.out g rfl).2)) (Nat.le_refl _)) (by have := Hbb.out; show b ≠ g; omega)).trans c0
            obtain ⟨W, hW⟩ : ∃ W, W = wr.setCell ⟨g, k, none⟩ (.bool true) := ⟨_, rfl⟩
            have hsz : wr.heap.size ≤ W.heap.size := by rw [hW]; exact T1.size
            rw [← hW] at hP2 hO2 hB2 hGl
            have HA := Lib.hid (add_any u11 m (g + 1) wr.heap.size src (i : Int) (pieceF s id' n k) W hP2 hsz (by have := Hml.out; omega) (by omega))
            have HHk := Lib.hid (HH.out (m.map Pt.pk) sn k (i : Int) Hheld.out Hall.out hkn)
            have HW := Lib.hid hW
            have HO2 := Lib.hid hO2
            have HB2 := Lib.hid hB2
            have HGl := Lib.hid hGl
            have hkk : ((0 : Int) == 0) = true := rfl
            generalize pieceF s id' n k = x' at *
            clear T1 hP2 hO2 hB2 hGl hsz hW hxs
            cases hbx : sn[k] with
            | true =>
              rw [hbx] at y1
              have Hbx := Lib.hid hbx
              have hsame := set_same hkl hbx
              rw [hsame] at HHk HO2
              obtain ⟨L', hadd, hlen, hheld⟩ : ∃ L', addF (m.map Pt.pk) src (i : Int) x' = ((L', ByteArray.empty, false), 0) ∧ L'.length = 1 ∧ Held s src id' L' sn := by
                rcases HHk.out with ⟨h, _⟩ | ⟨_, h⟩
                · rw [Hall.out] at h; cases h
                · exact h
              rw [hadd] at HA
              have Hheld2 := Lib.hid hheld
              have Hlen := Lib.hid hlen
              clear hbx hsame hadd hheld hlen HHk
              go_wp2_with fail
              rw [← HW.out]
              refine HA.out.mono ?_
              rintro e w5 ⟨u5, m5, rfl, hm5, hp5, hb5⟩
              dsimp only at hm5 ⊢
              have hl5 : m5.length = 1 := by have := congrArg List.length hm5; rw [List.length_map, Hlen.out] at this; exact this
              have Hm5 := Lib.hid hm5
              have Hp5 := Lib.hid hp5
              have Hb5 := Lib.hid hb5
              have Hl5 := Lib.hid hl5
              obtain ⟨⟨a5, c5, rfl, -⟩, -⟩ := hp5
              have hq0 : (((q + 1 : Nat) : Int) == 0) = false := by simp; omega
              rw [show ByteArray.empty = (⟨#[]⟩ : ByteArray) from rfl]
              rw [hl5] at Hp5 ⊢
              clear hm5 hb5 hl5 hcx c0 y1 y2
              go_wp2_with fail
              go_roundw
              case rel => exact ⟨i + 1, q + 1, sn, m5, by omega, by go_num, rfl, Harr.out, Hsl.out, .inr (by rw [Hm5.out]; exact Hheld2.out), by rw [Hl5.out]; exact Nat.le_refl _, fun j hj hji => (by
                  by_cases e : j + M < i
                  · exact Hsee.out j hj e
                  · have : j = k := by have := Hke.out; omega
                    rw [this, getD_at hkl]; exact Hbx.out), HO2.out.below Hb5.out (Nat.le_refl _), Hp5.out.wide HGl.out (Nat.le_refl _), HB2.out.trans (Hb5.out.mono (Nat.le_of_lt HGl.out))⟩
              case measure => simp [intOf]; omega
            | false =>
              rw [hbx] at y1
              have harr2 := arr_set hkl hbx
              have Harr2 := Lib.hid (show arrF (sn.set k true) + q = n by rw [harr2]; have := Harr.out; omega)
              have Hsl2 := Lib.hid (show (sn.set k true).length = n by rw [List.length_set]; exact Hsl.out)
              have Hsee2 := Lib.hid (fun j (hj : j < n) (hji : j + M < i + 1) => (show (sn.set k true).getD j false = true from by
                by_cases e : j = k
                · rw [e]; exact seen_here hkl
                · exact seen_set (Hsee.out j hj (by have := Hke.out; omega))))
              clear harr2 hbx
              rcases HHk.out with ⟨hall, hadd⟩ | ⟨hall, L', hadd, hlen, hheld⟩
              · rw [hadd] at HA
                have hqz : q = 0 := by have := arr_all' hall; have := Harr2.out; have := Hsl2.out; omega
                subst hqz
                have Hall2 := Lib.hid hall
                clear hadd hall HHk
                go_wp2_with fail
                rw [← HW.out]
                refine HA.out.mono ?_
                rintro e w5 ⟨u5, m5, rfl, hm5, hp5, hb5⟩
                dsimp only at hm5 ⊢
                obtain rfl : m5 = [] := List.map_eq_nil_iff.1 hm5
                have Hp5 := Lib.hid hp5
                have Hb5 := Lib.hid hb5
                obtain ⟨⟨a5, c5, rfl, -⟩, -⟩ := hp5
                clear hm5 hb5 hcx c0 y1 y2
                go_wp2_with fail
                go_roundw
                case rel => exact ⟨i + 1, 0, sn.set k true, [], by omega, by go_num, by go_num, Harr2.out, Hsl2.out, .inl Hall2.out, by simp, Hsee2.out, HO2.out.below Hb5.out (Nat.le_refl _), Hp5.out.wide HGl.out (Nat.le_refl _), HB2.out.trans (Hb5.out.mono (Nat.le_of_lt HGl.out))⟩
                case measure => simp [intOf]; omega
              · rw [hadd] at HA
                have hqz : q ≠ 0 := by
                  intro e
                  have := all_of_arr (sn := sn.set k true) (by have := Harr2.out; have := Hsl2.out; omega)
                  rw [hall] at this; cases this
                have hq0 : ((q : Int) == 0) = false := by simp; omega
                have Hheld2 := Lib.hid hheld
                have Hlen := Lib.hid hlen
                clear hadd hheld hlen HHk hall hqz
                go_wp2_with fail
                rw [← HW.out]
                refine HA.out.mono ?_
                rintro e w5 ⟨u5, m5, rfl, hm5, hp5, hb5⟩
                dsimp only at hm5 ⊢
                have hl5 : m5.length = 1 := by have := congrArg List.length hm5; rw [List.length_map, Hlen.out] at this; exact this
                have Hm5 := Lib.hid hm5
                have Hp5 := Lib.hid hp5
                have Hb5 := Lib.hid hb5
                have Hl5 := Lib.hid hl5
                obtain ⟨⟨a5, c5, rfl, -⟩, -⟩ := hp5
                rw [show ByteArray.empty = (⟨#[]⟩ : ByteArray) from rfl]
                rw [hl5] at Hp5 ⊢
                clear hm5 hb5 hl5 hcx c0 y1 y2
                go_wp2_with fail
                go_roundw
                case rel => exact ⟨i + 1, q, sn.set k true, m5, by omega, by go_num, by go_num, Harr2.out, Hsl2.out, .inr (by rw [Hm5.out]; exact Hheld2.out), by rw [Hl5.out]; exact Nat.le_refl _, Hsee2.out, HO2.out.below Hb5.out (Nat.le_refl _), Hp5.out.wide HGl.out (Nat.le_refl _), HB2.out.trans (Hb5.out.mono (Nat.le_of_lt HGl.out))⟩
                case measure => simp [intOf]; omega
end Go.Proofs.Ytmjamjadfnbkdaa
