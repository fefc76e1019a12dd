/-
  Fragments: the walk of what adds a piece of a message of another number of pieces, the program's.
-/
import Derived.Test.YtmjamjadfnbkdaaFsg
open Go Go.RowKit Go.Proofs
namespace Go.Proofs.Ytmjamjadfnbkdaa
open Hub

set_option maxRecDepth 20000 in
set_option maxHeartbeats 16000000 in
theorem addTurn_any (v : Value) (l : List Pt) (lo N : Nat) (src now : Int) (s : ByteArray) (w : World) (hv : PtsAt lo N w v l) (hN : N ≤ w.heap.size) (hl : l.length ≤ 1000) (hs : s.size ≤ 1099511627776) (hc : chkF s = 0)
    (O0 : List Pk) (hO : orderF (l.map Pt.pk) = O0) (j : Nat) (hk : findF O0 src (byI s 0) = (j : Int)) (hj : j < O0.length) (hcn : O0[j].cnt ≠ byI s 2) (h1 : byI s 2 ≠ 1) :
    Calls Try.prog 18 #[v, .int .i64 src, .int .i64 now, .string s] w fun e w' => Added w w' e (finF (O0.eraseIdx j ++ [newP src (byI s 0) (byI s 2) now]) (O0.eraseIdx j).length (byI s 1).toNat (s.extract 3 s.size)) 0 := by
  have hC := chkF_zero hc
  obtain ⟨z3, c1lo, c1hi, hix, hfit⟩ := hC
  have hi0 : (0 : Int) < (s.size : Int) := by omega
  have hi1 : (1 : Int) < (s.size : Int) := by omega
  have hi2 : (2 : Int) < (s.size : Int) := by omega
  have hi3 : (3 : Int) ≤ (s.size : Int) := by omega
  have e0 := byI_at s 0 (Nat.lt_of_lt_of_le (by decide) z3)
  have e1 := byI_at s 1 (Nat.lt_of_lt_of_le (by decide) z3)
  have e2 := byI_at s 2 (Nat.lt_of_lt_of_le (by decide) z3)
  have l0 := byI_lo s 0
  have l1 := byI_lo s 1
  have u0 := byI_hi s 0
  have u1 := byI_hi s 1
  have hd64 : (s.extract 3 s.size).size ≤ 64 := by have := fits_le hfit; rw [ByteArray.size_extract]; omega
  obtain ⟨ix, hixe⟩ := Int.eq_ofNat_of_zero_le l1
  obtain ⟨cc, hcce⟩ := Int.eq_ofNat_of_zero_le (show 0 ≤ byI s 2 by omega)
  have HK := Lib.hid (fun w' => chk_any s w' hs)
  have HO := Lib.hid (fun w' (t : Below w.heap.size w w') => order_any v l lo N w' (hv.below t hN) (Nat.le_trans hN t.size) hl)
  rw [hc] at HK
  have HD64 := Lib.hid hd64
  rw [hO] at HO
  have hol : O0.length ≤ 8 := by rw [← hO]; exact orderF_len (l.map Pt.pk)
  obtain ⟨i0, hi0x, hz0, hz1, hz2⟩ := info_parts pt_info
  obtain ⟨j0, hj0, hy0, hy1, hy2⟩ := info_parts bool_info
  obtain ⟨q0, hq0, hx0, hx1, hx2⟩ := info_parts str_info
  have HFi := Lib.hid (fun w' u (m : List Pt) (hm : m.map Pt.pk = O0) (h : RowsAt 0 w'.heap.size w' u m) => (show Calls Try.prog 26 #[u, .int .i64 src, .int .i64 (byI s 0)] w' _ from by
    have := find_any u m 0 w'.heap.size src (byI s 0) w' h (Nat.le_refl _) (by have := congrArg List.length hm; rw [List.length_map] at this; omega)
    rw [hm, hk] at this; exact this))
  have hn1 : ((cc : Int) == 1) = false := by rw [← hcce]; simpa using h1
  have hc2 : 2 ≤ cc := by rw [hcce] at c1lo h1; omega
  have hcne : (O0[j].cnt != (cc : Int)) = true := by rw [← hcce]; simpa using hcn
  rw [hixe, hcce, Int.toNat_natCast]
  rw [hixe] at e1
  rw [hcce] at e2
  rw [hixe, hcce] at hix
  generalize byI s 0 = b0 at *
  obtain ⟨k, hkk⟩ : ∃ k, (O0.eraseIdx j).length = k := ⟨_, rfl⟩
  rw [hkk]
  obtain ⟨O, hOO⟩ : ∃ O, O = O0.eraseIdx j ++ [newP src b0 (cc : Int) now] := ⟨_, rfl⟩
  rw [← hOO]
  have hkl : k < O.length := by rw [hOO, List.length_append, hkk]; simp
  have hOk : O[k] = newP src b0 (cc : Int) now := by simp only [hOO, ← hkk, List.getElem_concat_length]
  have HRn := Lib.hid (fun (h : wholeP (setF O[k] ix (s.extract 3 s.size)) = false) => (finF_at (i := ix) (d := s.extract 3 s.size) hkl).trans (if_neg (by rw [h]; decide)))
  have HRy := Lib.hid (fun (h : wholeP (setF O[k] ix (s.extract 3 s.size)) = true) => (finF_at (i := ix) (d := s.extract 3 s.size) hkl).trans (if_pos h))
  generalize finF O k ix (s.extract 3 s.size) = R at *
  have hk8 : k < 8 := by rw [← hkk, List.length_eraseIdx, if_pos hj]; omega
  have Hfacts := Lib.hid (show ix < cc ∧ cc ≤ 16 ∧ k < 8 ∧ 2 ≤ cc ∧ O0.length ≤ 8 by omega)
  have hi255 : ix ≤ 255 := by omega
  have hc16 : cc ≤ 16 := by omega
  have hml16 : cc ≤ maxLen := by unfold maxLen; omega
  have HLim := Lib.hid (fun W => limit_any now W)
  have mB := fun W => run_make_row (P := Try.prog) 38 4 j0 (.bool false) Try.underlying38 hj0 hy0 hy1 rfl .i64 .i64 cc (by rw [hy2]; omega) (by omega) W
  have mS := fun W => run_make_row (P := Try.prog) 23 9 q0 (.string ByteArray.empty) Try.underlying23 hq0 hx0 hx1 rfl .i64 .i64 cc (by rw [hx2]; omega) (by omega) W
  rw [made_one] at mB mS
  have HmB := Lib.hid (fun W => RowAt.fresh W (List.replicate cc (Value.bool false)) 4)
  have HmS := Lib.hid (fun W => RowAt.fresh W (List.replicate cc (Value.string ByteArray.empty)) 9)
  have eB : (List.replicate cc (Value.bool false)).toArray = Array.replicate cc (Value.bool false) := by simp
  have eS : (List.replicate cc (Value.string ByteArray.empty)).toArray = Array.replicate cc (Value.string ByteArray.empty) := by simp
  have fB : List.replicate cc (Value.bool false) = (List.replicate cc false).map Value.bool := List.map_replicate.symm
  have fS : List.replicate cc (Value.string ByteArray.empty) = (List.replicate cc ByteArray.empty).map Value.string := List.map_replicate.symm
  rw [eB, fB] at HmB
  rw [eS, fS] at HmS
  have Hmk := Lib.hid (And.intro hkk (And.intro hOO hOk))
  have Hlc := Lib.hid hml16
  clear hO hk hfit c1lo c1hi hc hl hN hv l1 u1 hd64 h1 hixe hcce hix hc2 hol hml16 eB eS fB fS hOO hOk hkk hcn
  go_enter Try.func18, Try.ntmps18
  go_wp2_with (go_at_call 15; refine (HK.out _).mono ?_; rintro e w1 ⟨rfl, hb1⟩)
  go_quiet (fail)
  go_wp2_with fail
  have hb1' := Below.drewN' hb1 nq
  refine (HO.out _ hb1').mono ?_
  rintro e w2 ⟨u, m0, rfl, hm0, hQ, hE, hb2⟩
  have HB1 := Lib.hid (hb1'.size)
  have hb12 := bt hb1' hb2
  have HBx := Lib.hid (show (w1.drewN nq).heap.size ≤ w2.heap.size from hb2.size)
  generalize (w1.drewN nq).heap.size = B at *
  have hu := hQ.rows hE.shp
  have HF2 := Lib.hid (HFi.out w2 u m0 hm0 (hu.wide (Nat.zero_le _) (Nat.le_refl _)))
  go_wp2_with fail
  refine HF2.out.mono ?_
  rintro e y3 ⟨rfl, hb3⟩
  have hlm0 : m0.length = O0.length := by rw [← hm0, List.length_map]
  have hE3 := hE.below hb3 (Nat.le_refl _)
  have hQ3 := hQ.below hb3 (Nat.le_refl _)
  have hK3 := bt hb12 hb3
  have hBs : B ≤ y3.heap.size := Nat.le_trans HBx.out hb3.size
  have hu3 := hQ3.rows hE3.shp
  obtain ⟨ua0, uc0, rfl, -, -⟩ := id hu
  have hjm : j < m0.length := by rw [hlm0]; exact hj
  have HWo := Lib.hid (without_any _ m0 j B y3 hQ3 hE3 hjm (by rw [hlm0]; have := Hfacts.out; omega) hBs)
  obtain ⟨gu0, uo0, rfl, _, hgu0, hsix⟩ := hu3.cells hjm
  have hpk0 : m0[j].pk = O0[j] := by
    have : (m0.map Pt.pk)[j]'(by rw [List.length_map]; exact hjm) = O0[j] := by simp only [hm0]
    rw [List.getElem_map] at this; exact this
  obtain ⟨_, _, _, c2, _, _, _⟩ := hsix
  rw [hpk0] at c2
  have hjl : (j : Int) < (m0.length : Int) := by omega
  clear hQ hE hb1 hb1' hb2 hb3 hb12 hu HF2 HFi HO HK hlm0
  go_wp2_with fail
  refine HWo.out.mono ?_
  rintro e y4 ⟨u4, rfl, hP3, hE4, hb4⟩
  have hm1 : (m0.eraseIdx j).map Pt.pk = O0.eraseIdx j := by rw [map_erase, hm0]
  have hlmk : (m0.eraseIdx j).length = k := by rw [← Hmk.out.1, ← hm1, List.length_map]
  have hK4 := bt hK3 hb4
  have hBs4 : B ≤ y4.heap.size := Nat.le_trans hBs hb4.size
  clear hE3 hQ3 hK3 hBs HWo c2 hu3 hpk0
  have hE3 := hE4
  have hK3 := hK4
  have hBs := hBs4
  obtain ⟨ua, uc, rfl, -, -⟩ := hP3.rows hE4.shp
  rw [hlmk] at hP3 ⊢
  clear hE4 hK4 hBs4
  have h8n : ((k : Int) == 8) = false := by have := Hfacts.out; simp; omega
  generalize m0.eraseIdx j = m1 at *
  have hP3' := Lib.hid hP3
  have HR1 := Lib.hid (Ready.drew (ready1 (w := w) (q := newP src b0 (cc : Int) now) (cc := cc) (by simp [newP]) (by simp [newP]) (by have := Hfacts.out; omega) Hlc.out hP3 hE3 hBs hK3))
  have HR2 := Lib.hid (Ready.drew (ready2 (w := w) (q := newP src b0 (cc : Int) now) (cc := cc) (by simp [newP]) (by simp [newP]) (by have := Hfacts.out; omega) Hlc.out hP3 hE3 hBs hK3))
  have Hlm := Lib.hid hlmk
  clear hP3 hE3 hK3 hBs hlmk hb4
  go_wp2_with fail
  go_region_law (first
    | (go_simp; go_at_call 28; refine (HLim.out _).mono ?_; rintro e w5 ⟨rfl, rfl⟩)
    | (refine step_append_lies _ rfl _ _ 31 rfl B 44 i0 (.agg #[.int .i64 0, .int .i64 0, .int .i64 0, .int .i64 0, .slice none 0 0, .slice none 0 0]) 6 80 Try.underlying31 hi0x hz0 hz1 hz2 rfl (by decide) (.slice ua k uc) _ _ (by simp [Act.eval]) (by have := HR1.out.own; unfold OwnP at this; rw [Hlm.out] at this; exact this) ⟨y4.heap.size + 1 + 1, 0, none⟩ 1 1 (pcells ⟨newP src b0 (cc : Int) now, .slice (some ⟨y4.heap.size, 0, none⟩) cc cc, .slice (some ⟨y4.heap.size + 1, 0, none⟩) cc cc⟩) (by simp [Act.eval]) rfl HR1.out.news HR1.out.one (by decide) (by have := Hfacts.out; unfold maxLen; omega) (by have := Hfacts.out; omega) HR1.out.base _ rfl ?_; intro g6 cap6 w6 hown6 hgrow6 _ hlt6; have hDone := Lib.hid (HR1.out.done Hlm.out hown6 hgrow6 HB1.out))
    | (refine step_append_lies _ rfl _ _ 31 rfl B 44 i0 (.agg #[.int .i64 0, .int .i64 0, .int .i64 0, .int .i64 0, .slice none 0 0, .slice none 0 0]) 6 80 Try.underlying31 hi0x hz0 hz1 hz2 rfl (by decide) (.slice ua k uc) _ _ (by simp [Act.eval]) (by have := HR2.out.own; unfold OwnP at this; rw [Hlm.out] at this; exact this) ⟨y4.heap.size + 1 + 1, 0, none⟩ 1 1 (pcells ⟨newP src b0 (cc : Int) now, .slice (some ⟨y4.heap.size + 1, 0, none⟩) cc cc, .slice (some ⟨y4.heap.size, 0, none⟩) cc cc⟩) (by simp [Act.eval]) rfl HR2.out.news HR2.out.one (by decide) (by have := Hfacts.out; unfold maxLen; omega) (by have := Hfacts.out; omega) HR2.out.base _ rfl ?_; intro g6 cap6 w6 hown6 hgrow6 _ hlt6; have hDone := Lib.hid (HR2.out.done Hlm.out hown6 hgrow6 HB1.out)))
  all_goals
    obtain ⟨m, hm, hQ3, hE3, hK3⟩ : ∃ m : List Pt, m.map Pt.pk = O ∧ OwnQ w6 B (.slice (some ⟨g6, 0, none⟩) (k + 1) cap6) m ∧ Ents w6 B m ∧ Below w.heap.size w w6 := by
      first
        | exact ⟨_, by rw [List.map_append, hm1, Hmk.out.2.1]; rfl, hDone.out.1, hDone.out.2.1, hDone.out.2.2⟩
    have hOk := Hmk.out.2.2
    have hml : m.length = k + 1 := by
      have := congrArg List.length hm
      rw [List.length_map, Hmk.out.2.1, List.length_append, Hmk.out.1] at this
      simpa using this
    have hmk : k < m.length := by omega
    have hpk : m[k].pk = O[k] := by
      have : (m.map Pt.pk)[k]'(by rw [List.length_map]; exact hmk) = O[k] := by simp only [hm]
      rw [List.getElem_map] at this; exact this
    have hu3 := hQ3.rows hE3.shp
    have qh : O[k].hv.length = cc := by rw [hOk]; simp [newP]
    have qd : O[k].dt.length = cc := by rw [hOk]; simp [newP]
    obtain ⟨gu, uo, hguu, _, hgu, hsix⟩ := hu3.cells hmk
    simp only [Option.some.injEq, Addr.mk.injEq, and_true] at hguu
    obtain ⟨rfl, rfl⟩ := hguu
    obtain ⟨gh, ch, gd, cd, ev, ed, lgh, lgd, hT, hS⟩ := entRow (hE3.1 m[k] (List.getElem_mem hmk)) (n := cc) (by rw [hpk]; exact qh) (by rw [hpk]; exact qd)
    have ne1 := hQ3.neT hT
    have ne2 := hQ3.neS hS
    have ne3 := neST hS hT
    have hix := Hfacts.out.1
    rw [hpk] at hT hS
    have hixh : ix < O[k].hv.length := by rw [qh]; exact hix
    have hixd : ix < O[k].dt.length := by rw [qd]; exact hix
    obtain ⟨x1, f1⟩ := hT.at ix hixh
    obtain ⟨x2, f2⟩ := hS.at ix hixd
    have hPut := hE3.put (i := ix) hmk ev ed (s.extract 3 s.size)
    have hTurn := hQ3.turn (q := { m[k].pk with hv := m[k].pk.hv.set ix true, dt := m[k].pk.dt.set ix (s.extract 3 s.size) }) hmk rfl rfl rfl rfl
    have hPkM : (m.set k ⟨{ m[k].pk with hv := m[k].pk.hv.set ix true, dt := m[k].pk.dt.set ix (s.extract 3 s.size) }, m[k].vh, m[k].vd⟩).map Pt.pk = O.set k { m[k].pk with hv := m[k].pk.hv.set ix true, dt := m[k].pk.dt.set ix (s.extract 3 s.size) } := by rw [List.map_set, hm]
    obtain ⟨hshp, c0, c1, c2, c3, c4, c5⟩ := hsix
    rw [hpk] at hPut hTurn hPkM c0 c1 c2 c3
    rw [ev] at c4
    rw [ed] at c5
    rw [Nat.zero_add] at c4 c5
    have hdts : ∀ x ∈ O[k].dt, x.size ≤ 64 := by
      rw [hOk]; intro x hx
      simp only [newP, Int.toNat_natCast, List.mem_replicate] at hx
      rw [hx.2]; exact Nat.zero_le _
    have hku : (k : Int) < ((k + 1 : Nat) : Int) := by omega
    have hku2 : (k : Int) < (k : Int) + 1 := by omega
    have hixi : (ix : Int) < (cc : Int) := by omega
    have hbx : O[k].hv[ix] = false := by simp [hOk, newP]
    have HlM := Lib.hid (show m.length ≤ 1000 by have := Hfacts.out; omega)
    have HkM := Lib.hid hmk
    have HBB := HB1
    generalize O[k] = p at *
    have Hm := Lib.hid hm
    have HlV := Lib.hid qh
    have HlD := Lib.hid qd
    rw [hbx] at x1
    rw [setF_new hixh hbx] at HRn HRy
    obtain ⟨M, hM⟩ : ∃ M, M = m.set k ⟨{ p with hv := p.hv.set ix true, dt := p.dt.set ix (s.extract 3 s.size) }, m[k].vh, m[k].vd⟩ := ⟨_, rfl⟩
    have hPut2 : Ents ((w6.setCell ⟨gh, ix, none⟩ (.bool true)).setCell ⟨gd, ix, none⟩ (.string (s.extract 3 s.size))) B M := by rw [hM]; exact hPut
    have hTurn2 : OwnQ w6 B (.slice (some ⟨g6, 0, none⟩) (k + 1) cap6) M := by rw [hM]; exact hTurn
    have hPkM2 : M.map Pt.pk = O.set k { p with hv := p.hv.set ix true, dt := p.dt.set ix (s.extract 3 s.size) } := by rw [hM]; exact hPkM
    clear hPut hTurn hPkM
    have hML : M.length = m.length := by rw [hM, List.length_set]
    have T1 : Tch gh w6 (w6.setCell ⟨gh, ix, none⟩ (.bool true)) := (Tch.refl _ _).setCell ix _
    have T2 : Tch gd (w6.setCell ⟨gh, ix, none⟩ (.bool true)) ((w6.setCell ⟨gh, ix, none⟩ (.bool true)).setCell ⟨gd, ix, none⟩ (.string (s.extract 3 s.size))) := (Tch.refl _ _).setCell ix _
    have hS1 : OwnS (w6.setCell ⟨gh, ix, none⟩ (.bool true)) B (.slice (some ⟨gd, 0, none⟩) cc cd) p.dt := World.ownsRow.kept hS T1 (st_ne hS hT).2
    have hT1 := setOwnT (i := ix) hT true
    have hS2 := setOwnS (i := ix) hS1 (s.extract 3 s.size)
    have hT2 : OwnT ((w6.setCell ⟨gh, ix, none⟩ (.bool true)).setCell ⟨gd, ix, none⟩ (.string (s.extract 3 s.size))) B (.slice (some ⟨gh, 0, none⟩) cc ch) (p.hv.set ix true) := World.ownsRow.kept hT1 T2 (st_ne hS1 hT1).1
    have hBw := HB1.out
    have hKX := tch_new (tch_new hK3 T1 (by omega) (Nat.le_refl _)) T2 (by omega) (Nat.le_refl _)
    have hQX := (hTurn2.tchT T1 hT).tchS T2 hS1
    have hgu1 : g6 < (w6.setCell ⟨gh, ix, none⟩ (.bool true)).heap.size := Nat.lt_of_lt_of_le hgu T1.size
    have d4 := (tch_cell T2 (p := ⟨g6, k * 6 + 4, none⟩) hgu1 ne2).trans ((tch_cell T1 (p := ⟨g6, k * 6 + 4, none⟩) hgu ne1).trans c4)
    have d5 := (tch_cell T2 (p := ⟨g6, k * 6 + 5, none⟩) hgu1 ne2).trans ((tch_cell T1 (p := ⟨g6, k * 6 + 5, none⟩) hgu ne1).trans c5)
    have hxs : B ≤ ((w6.setCell ⟨gh, ix, none⟩ (.bool true)).setCell ⟨gd, ix, none⟩ (.string (s.extract 3 s.size))).heap.size := Nat.le_trans (Nat.le_trans lgh (Nat.le_of_lt (World.ownsRow.lt hT gh rfl).2)) (Nat.le_trans T1.size T2.size)
    obtain ⟨X, hX⟩ : ∃ X, X = (w6.setCell ⟨gh, ix, none⟩ (.bool true)).setCell ⟨gd, ix, none⟩ (.string (s.extract 3 s.size)) := ⟨_, rfl⟩
    rw [← hX] at hPut2 hS2 hT2 hKX hQX d4 d5 hxs
    have HX := Lib.hid hX
    have HQX := Lib.hid hQX
    have HEX := Lib.hid hPut2
    have HKX := Lib.hid hKX
    have HWX := Lib.hid (And.intro d4 d5)
    have HHV := Lib.hid (fun j hj => (hT2.at j hj).1)
    have HDT := Lib.hid hS2.strs
    have HFl := Lib.hid (show (flat (p.dt.set ix (s.extract 3 s.size))).length ≤ 1099511627776 from Nat.le_trans (flat_len _ 64 (fun x hx => (List.mem_or_eq_of_mem_set hx).elim (hdts x) (fun e => by rw [e]; exact HD64.out))) (by rw [List.length_set, qd]; omega))
    have HXB := Lib.hid hxs
    have HNot := Lib.hid hPkM2
    have HAllM := Lib.hid (show (M.eraseIdx k).map Pt.pk = O.eraseIdx k by rw [map_erase, hPkM2, List.eraseIdx_set_eq])
    have HlV2 := Lib.hid (show (p.hv.set ix true).length = cc by rw [List.length_set]; exact qh)
    have HlD2 := Lib.hid (show (p.dt.set ix (s.extract 3 s.size)).length = cc by rw [List.length_set]; exact qd)
    have HlM2 := Lib.hid (show M.length ≤ 1000 by rw [hML]; exact HlM.out)
    have HkM2 := Lib.hid (show k < M.length by rw [hML]; exact hmk)
    have HlV := HlV2
    have HlD := HlD2
    have HlM := HlM2
    have HkM := HkM2
    generalize p.dt[ix] = dx at *
    clear hm hmk hQ3 hE3 hK3 hu3 hml hPut2 hTurn2 hPkM2 hdts qh qd hpk hkl hT hS lgh lgd ev ed hshp hixh hixd hbx HB1 hDone hOk hown6 hgrow6 hlt6 HR1 HR2 hP3' hM hML T1 T2 hS1 hT1 hS2 hT2 hBw hKX hQX hgu1 d4 d5 hxs hX HlV2 HlD2 HlM2 HkM2
    go_wp2_with fail
    rw [← HX.out]
    obtain ⟨c4, c5⟩ := HWX.out
    go_loop [115] (fun q => ∃ j : Nat, j ≤ cc ∧ q = .int .i64 j ∧ ∀ t (ht : t < (p.hv.set ix true).length), t < j → (p.hv.set ix true)[t] = true) (fun q => cc - (intOf q).toNat)
    case atStart => exact ⟨0, Nat.zero_le _, rfl, fun t _ h => by omega⟩
    case round =>
      obtain ⟨j, hj, rfl, hall⟩ := hrel
      by_cases hlt : j < cc
      · have hjl : j < (p.hv.set ix true).length := by rw [HlV.out]; exact hlt
        have hji : (j : Int) < (cc : Int) := by omega
        have ej := HHV.out j hjl
        have HA := Lib.hid (fun (h : (p.hv.set ix true)[j] = true) t (h1 : t < (p.hv.set ix true).length) (ht : t < j + 1) => (show (p.hv.set ix true)[t] = true from by
          by_cases e2 : t = j
          · subst e2; exact h
          · exact hall t h1 (by omega)))
        have HB := Lib.hid (fun (h : (p.hv.set ix true)[j] = false) => HRn.out (wholeP_no (p := { p with hv := p.hv.set ix true, dt := p.dt.set ix (s.extract 3 s.size) }) hjl h))
        clear hall
        generalize (p.hv.set ix true)[j] = x at *
        clear hjl
        cases x with
        | false =>
          have hR := HB.out rfl
          subst hR
          clear HA HB
          go_wp2_with fail
          refine bodyPost_ret (v := .tuple #[.slice (some ⟨g6, 0, none⟩) (k + 1) cap6, .string ⟨#[]⟩, .bool false, .int .i64 0]) ?_ rfl (Added.of (R := (_, ByteArray.empty, false)) HQX.out HEX.out HBB.out HNot.out HKX.out)
          simp [results, Try.results18, go_sem]
        | true =>
          have HA2 := Lib.hid (HA.out rfl)
          clear HA HB
          go_wp2_with fail
          exact ⟨⟨j + 1, by omega, by go_num, HA2.out⟩, by simp [intOf]; omega⟩
      · obtain rfl : j = cc := by omega
        have hR := HRy.out (wholeP_yes (p := { p with hv := p.hv.set ix true, dt := p.dt.set ix (s.extract 3 s.size) }) (fun t ht => hall t ht (by rw [HlV.out] at ht; exact ht)))
        subst hR
        clear hall
        go_wp2_with fail
        refine (join_any (p.dt.set ix (s.extract 3 s.size)) _ B X.heap.size X HDT.out (Nat.le_refl _) (by have := HlD.out; omega) HFl.out).mono ?_
        rintro e w5 ⟨rfl, hb5⟩
        have hQ5 := HQX.out.below hb5 (Nat.le_refl _)
        have hE5 := HEX.out.below hb5 (Nat.le_refl _)
        have HWo := Lib.hid (without_any _ (M) k B w5 hQ5 hE5 HkM.out HlM.out (by have := HXB.out; have := hb5.size; omega))
        have HK5 := Lib.hid (bt HKX.out hb5)
        clear hQ5 hE5 hb5 c4 c5
        go_wp2_with fail
        refine HWo.out.mono ?_
        rintro e w6 ⟨u6, rfl, hP6, hE6, hb6⟩
        have HP6 := Lib.hid (show OwnQ w6 B u6 ((M).eraseIdx k) from .inl hP6)
        have HE6 := Lib.hid hE6
        have HK6 := Lib.hid (bt HK5.out hb6)
        clear hP6 hE6 hb6
        go_wp2_with fail
        refine bodyPost_ret (v := .tuple #[u6, .string (mk (flat (p.dt.set ix (s.extract 3 s.size)))), .bool true, .int .i64 0]) ?_ rfl (Added.of (R := (_, _, true)) HP6.out HE6.out HBB.out HAllM.out HK6.out)
        simp [results, Try.results18, go_sem]

end Go.Proofs.Ytmjamjadfnbkdaa
