/-
  Fragments: the walk of what adds a piece of a message that is under way, the program's.
-/
import Derived.Test.YtmjamjadfnbkdaaFsd
import Derived.Test.YtmjamjadfnbkdaaBas
open Go Go.RowKit Go.Proofs
namespace Go.Proofs.Ytmjamjadfnbkdaa
namespace Hub
theorem w64_small {x : Int} (h0 : 0 ≤ x) (h1 : x ≤ 1099511627776) : wrap64 x = x := IntWalk.wrap64_in _ ⟨by omega, by omega⟩
/-- What a call of Add returns. -/
def Added (w w' : World) (e : Ending) (R : List Pk × ByteArray × Bool) (c : Int) : Prop :=
  ∃ u m, e = .returned (.tuple #[u, .string R.2.1, .bool R.2.2, .int .i64 c]) ∧ m.map Pt.pk = R.1 ∧ PtsAt w.heap.size w'.heap.size w' u m ∧ Below w.heap.size w w'
theorem finF_at {l : List Pk} {k i : Nat} {d : ByteArray} (h : k < l.length) : finF l k i d = if wholeP (setF l[k] i d) = true then (l.eraseIdx k, joinP (setF l[k] i d), true) else (l.set k (setF l[k] i d), ByteArray.empty, false) := by
  unfold finF; rw [List.getElem?_eq_getElem h]
theorem setF_old {p : Pk} {i : Nat} {d : ByteArray} (h : i < p.hv.length) (e : p.hv[i] = true) : setF p i d = p := by
  unfold setF; rw [List.getD_eq_getElem?_getD, List.getElem?_eq_getElem h]; simp [e]
theorem setF_new {p : Pk} {i : Nat} {d : ByteArray} (h : i < p.hv.length) (e : p.hv[i] = false) : setF p i d = { p with hv := p.hv.set i true, dt := p.dt.set i d } := by
  unfold setF; rw [List.getD_eq_getElem?_getD, List.getElem?_eq_getElem h]; simp [e]
theorem OwnQ.neT {w : World} {base b gu uo un uc gh n c : Nat} {m : List Pt} {l : List Bool} (h : OwnQ w base (.slice (some ⟨gu, uo, none⟩) un uc) m) (t : OwnT w b (.slice (some ⟨gh, 0, none⟩) n c) l) : gu ≠ gh := by
  rcases h with h | ⟨_, g, cap, pre, hv, _, h, _⟩
  · have := (pt_ne h t).2
    simpa [Value.ownBlock] using this
  · simp only [Value.slice.injEq, Option.some.injEq, Addr.mk.injEq] at hv
    obtain ⟨⟨rfl, _⟩, _⟩ := hv
    have := (pt_ne h t).2
    simpa [Value.ownBlock] using this
theorem OwnQ.neS {w : World} {base b gu uo un uc gh n c : Nat} {m : List Pt} {l : List ByteArray} (h : OwnQ w base (.slice (some ⟨gu, uo, none⟩) un uc) m) (t : OwnS w b (.slice (some ⟨gh, 0, none⟩) n c) l) : gu ≠ gh := by
  rcases h with h | ⟨_, g, cap, pre, hv, _, h, _⟩
  · have := (ps_ne h t).2
    simpa [Value.ownBlock] using this
  · simp only [Value.slice.injEq, Option.some.injEq, Addr.mk.injEq] at hv
    obtain ⟨⟨rfl, _⟩, _⟩ := hv
    have := (ps_ne h t).2
    simpa [Value.ownBlock] using this
theorem neST {w : World} {a b gd n c gh n' c' : Nat} {m : List Bool} {l : List ByteArray} (h : OwnS w a (.slice (some ⟨gd, 0, none⟩) n c) l) (t : OwnT w b (.slice (some ⟨gh, 0, none⟩) n' c') m) : gd ≠ gh := by
  have := (st_ne h t).2
  simpa [Value.ownBlock] using this
theorem OwnT.at {w : World} {base g n c : Nat} {l : List Bool} (h : OwnT w base (.slice (some ⟨g, 0, none⟩) n c) l) (i : Nat) (hi : i < l.length) : w.cell? ⟨g, i, none⟩ = some (.bool l[i]) ∧ w.frozen? ⟨g, i, none⟩ = false := by
  have hn : n = l.length := by
    rcases h.2 with ⟨hv, _⟩ | ⟨g', cap', cur, hv, _⟩
    · simp at hv
    · simp at hv; exact hv.2.1
  subst hn
  refine ⟨?_, World.ownsRow.frozenAt h i⟩
  rw [World.ownsRow.cellAt h i (by omega)]
  simp [List.getElem?_eq_getElem hi]
theorem OwnS.at {w : World} {base g n c : Nat} {l : List ByteArray} (h : OwnS w base (.slice (some ⟨g, 0, none⟩) n c) l) (i : Nat) (hi : i < l.length) : w.cell? ⟨g, i, none⟩ = some (.string l[i]) ∧ w.frozen? ⟨g, i, none⟩ = false := by
  have hn : n = l.length := by
    rcases h.2 with ⟨hv, _⟩ | ⟨g', cap', cur, hv, _⟩
    · simp at hv
    · simp at hv; exact hv.2.1
  subst hn
  refine ⟨?_, World.ownsRow.frozenAt h i⟩
  rw [World.ownsRow.cellAt h i (by omega)]
  simp [List.getElem?_eq_getElem hi]
theorem entRow {w : World} {base : Nat} {p : Pt} (h : Ent w base p) {n : Nat} (h1 : p.pk.hv.length = n) (h2 : p.pk.dt.length = n) : ∃ gh ch gd cd, p.vh = .slice (some ⟨gh, 0, none⟩) n ch ∧ p.vd = .slice (some ⟨gd, 0, none⟩) n cd ∧ base ≤ gh ∧ base ≤ gd ∧
    OwnT w base (.slice (some ⟨gh, 0, none⟩) n ch) p.pk.hv ∧ OwnS w base (.slice (some ⟨gd, 0, none⟩) n cd) p.pk.dt := by
  obtain ⟨a, b, n1, n2⟩ := h
  obtain ⟨x, c, e, _, hx⟩ := a.shape
  obtain ⟨y, d, f, _, hy⟩ := b.shape
  obtain ⟨gh, rfl⟩ := hx (List.length_pos_iff.2 n1)
  obtain ⟨gd, rfl⟩ := hy (List.length_pos_iff.2 n2)
  rw [h1] at e
  rw [h2] at f
  rw [e] at a
  rw [f] at b
  exact ⟨gh, c, gd, d, e, f, (World.ownsRow.lt a gh rfl).1, (World.ownsRow.lt b gd rfl).1, a, b⟩
theorem Added.of {w w' : World} {base : Nat} {u : Value} {m : List Pt} {R : List Pk × ByteArray × Bool} {c : Int} (hQ : OwnQ w' base u m) (hE : Ents w' base m) (hB : w.heap.size ≤ base) (hm : m.map Pt.pk = R.1) (hb : Below w.heap.size w w') :
    Added w w' (.returned (.tuple #[u, .string R.2.1, .bool R.2.2, .int .i64 c])) R c :=
  ⟨u, m, rfl, hm, ⟨(hQ.rows hE.shp).wide hB (Nat.le_refl _), hE.dat.wide hB (Nat.le_refl _)⟩, hb⟩
end Hub
open Hub

set_option maxRecDepth 20000 in
set_option maxHeartbeats 4000000 in
theorem addOld_any (v : Value) (l : List Pt) (lo N : Nat) (src now : Int) (s : ByteArray) (w : World) (hv : PtsAt lo N w v l) (hN : N ≤ w.heap.size) (hl : l.length ≤ 1000) (hs : s.size ≤ 1099511627776) (hc : chkF s = 0)
    (O : List Pk) (hO : orderF (l.map Pt.pk) = O) (k : Nat) (hk : findF O src (byI s 0) = (k : Int)) (hkl : k < O.length) (hcn : O[k].cnt = byI s 2) (h1 : byI s 2 ≠ 1) :
    Calls Try.prog 18 #[v, .int .i64 src, .int .i64 now, .string s] w fun e w' => Added w w' e (finF O k (byI s 1).toNat (s.extract 3 s.size)) 0 := by
  have hC := chkF_zero hc
  obtain ⟨z3, c1lo, c1hi, hix, hfit⟩ := hC
  have hi0 : (0 : Int) < (s.size : Int) := by omega
  have hi1 : (1 : Int) < (s.size : Int) := by omega
  have hi2 : (2 : Int) < (s.size : Int) := by omega
  have hi3 : (3 : Int) ≤ (s.size : Int) := by omega
  have e0 := byI_at s 0 (Nat.lt_of_lt_of_le (by decide) z3)
  have e1 := byI_at s 1 (Nat.lt_of_lt_of_le (by decide) z3)
  have e2 := byI_at s 2 (Nat.lt_of_lt_of_le (by decide) z3)
  have l0 := byI_lo s 0
  have l1 := byI_lo s 1
  have u0 := byI_hi s 0
  have u1 := byI_hi s 1
  have hd64 : (s.extract 3 s.size).size ≤ 64 := by have := fits_le hfit; rw [ByteArray.size_extract]; omega
  obtain ⟨ix, hixe⟩ := Int.eq_ofNat_of_zero_le l1
  obtain ⟨cc, hcce⟩ := Int.eq_ofNat_of_zero_le (show 0 ≤ byI s 2 by omega)
  have HK := Lib.hid (fun w' => chk_any s w' hs)
  have HO := Lib.hid (fun w' (t : Below w.heap.size w w') => order_any v l lo N w' (hv.below t hN) (Nat.le_trans hN t.size) hl)
  rw [hc] at HK
  have HD64 := Lib.hid hd64
  have hval : validF O[k] = true := orderF_valid (l.map Pt.pk) _ (by rw [hO]; exact List.getElem_mem hkl)
  have hol : O.length ≤ 8 := by rw [← hO]; exact orderF_len (l.map Pt.pk)
  rw [hO] at HO
  have HRn := Lib.hid (fun (h : wholeP (setF O[k] (byI s 1).toNat (s.extract 3 s.size)) = false) => (finF_at (i := (byI s 1).toNat) (d := s.extract 3 s.size) hkl).trans (if_neg (by rw [h]; decide)))
  have HRy := Lib.hid (fun (h : wholeP (setF O[k] (byI s 1).toNat (s.extract 3 s.size)) = true) => (finF_at (i := (byI s 1).toNat) (d := s.extract 3 s.size) hkl).trans (if_pos h))
  generalize finF O k (byI s 1).toNat (s.extract 3 s.size) = R at *
  have HFi := Lib.hid (fun w' u (m : List Pt) (hm : m.map Pt.pk = O) (h : RowsAt 0 w'.heap.size w' u m) => (show Calls Try.prog 26 #[u, .int .i64 src, .int .i64 (byI s 0)] w' _ from by
    have := find_any u m 0 w'.heap.size src (byI s 0) w' h (Nat.le_refl _) (by have := congrArg List.length hm; rw [List.length_map] at this; omega)
    rw [hm, hk] at this; exact this))
  have hn1 : ((cc : Int) == 1) = false := by rw [← hcce]; simpa using h1
  rw [hixe, Int.toNat_natCast] at HRn HRy
  rw [hixe] at e1
  rw [hcce] at e2 hcn
  rw [hixe, hcce] at hix
  generalize byI s 0 = b0 at *
  have Hfacts := Lib.hid (show ix < cc ∧ cc ≤ 16 ∧ O.length ≤ 8 by omega)
  have hi255 : ix ≤ 255 := by omega
  have hc16 : cc ≤ 16 := by omega
  clear hO hk hfit c1lo c1hi hc hl hN hv l1 u1 hd64 h1 hixe hcce hix hol
  go_enter Try.func18, Try.ntmps18
  go_wp2_with (go_at_call 15; refine (HK.out _).mono ?_; rintro e w1 ⟨rfl, hb1⟩)
  go_quiet (fail)
  go_wp2_with fail
  have hb1' := Below.drewN' hb1 nq
  refine (HO.out _ hb1').mono ?_
  rintro e w2 ⟨u, m, rfl, hm, hQ, hE, hb2⟩
  have HB1 := Lib.hid (hb1'.size)
  have hb12 := bt hb1' hb2
  have hmk : k < m.length := by have := congrArg List.length hm; rw [List.length_map] at this; omega
  have hpk : m[k].pk = O[k] := by
    have : (m.map Pt.pk)[k]'(by rw [List.length_map]; exact hmk) = O[k] := by simp only [hm]
    rw [List.getElem_map] at this; exact this
  generalize (w1.drewN nq).heap.size = B at *
  have hu := hQ.rows hE.shp
  have HF2 := Lib.hid (HFi.out w2 u m hm (hu.wide (Nat.zero_le _) (Nat.le_refl _)))
  go_wp2_with fail
  refine HF2.out.mono ?_
  rintro e w3 ⟨rfl, hb3⟩
  have hQ3 := hQ.below hb3 (Nat.le_refl _)
  have hE3 := hE.below hb3 (Nat.le_refl _)
  have hK3 := bt hb12 hb3
  have hu3 := hQ3.rows hE3.shp
  have hlm : m.length = O.length := by rw [← hm, List.length_map]
  obtain ⟨ua, uc, rfl, -, -⟩ := id hu3
  obtain ⟨gu, uo, rfl, _, hgu, hsix⟩ := hu3.cells hmk
  obtain ⟨nn, q2, q16, qh, qd, qc⟩ := validF_len hval
  obtain rfl : nn = cc := by rw [hcn] at qc; omega
  obtain ⟨gh, ch, gd, cd, ev, ed, lgh, lgd, hT, hS⟩ := entRow (hE3.1 m[k] (List.getElem_mem hmk)) (n := nn) (by rw [hpk]; exact qh) (by rw [hpk]; exact qd)
  have ne1 := hQ3.neT hT
  have ne2 := hQ3.neS hS
  have ne3 := neST hS hT
  have hix := Hfacts.out.1
  rw [hpk] at hT hS
  have hixh : ix < O[k].hv.length := by rw [qh]; exact hix
  have hixd : ix < O[k].dt.length := by rw [qd]; exact hix
  obtain ⟨x1, f1⟩ := hT.at ix hixh
  obtain ⟨x2, f2⟩ := hS.at ix hixd
  have hPut := hE3.put (i := ix) hmk ev ed (s.extract 3 s.size)
  have hTurn := hQ3.turn (q := { m[k].pk with hv := m[k].pk.hv.set ix true, dt := m[k].pk.dt.set ix (s.extract 3 s.size) }) hmk rfl rfl rfl rfl
  have hPkM : (m.set k ⟨{ m[k].pk with hv := m[k].pk.hv.set ix true, dt := m[k].pk.dt.set ix (s.extract 3 s.size) }, m[k].vh, m[k].vd⟩).map Pt.pk = O.set k { m[k].pk with hv := m[k].pk.hv.set ix true, dt := m[k].pk.dt.set ix (s.extract 3 s.size) } := by rw [List.map_set, hm]
  obtain ⟨hshp, c0, c1, c2, c3, c4, c5⟩ := hsix
  rw [hpk] at hPut hTurn hPkM c0 c1 c2 c3
  rw [ev] at c4
  rw [ed] at c5
  rw [hcn] at c2
  have hdts := validF_dt hval
  have hku : (k : Int) < (m.length : Int) := by omega
  have hixi : (ix : Int) < (nn : Int) := by omega
  have hne : ((nn : Int) != (nn : Int)) = false := by simp
  have hOset : O.set k O[k] = O := List.set_getElem_self hkl
  have HlM := Lib.hid (show m.length ≤ 1000 by have := Hfacts.out.2.2; omega)
  have HkM := Lib.hid hmk
  have HBB := HB1
  generalize O[k] = p at *
  have Hm := Lib.hid hm
  have HOset := Lib.hid hOset
  have HlV := Lib.hid qh
  have HlD := Lib.hid qd
  cases hbx : p.hv[ix] with
  | true =>
    rw [hbx] at x1
    rw [setF_old hixh hbx] at HRn HRy
    have HQX := Lib.hid hQ3
    have HEX := Lib.hid hE3
    have HKX := Lib.hid hK3
    have HWX := Lib.hid (And.intro c4 c5)
    have HHV := Lib.hid (fun j hj => (hT.at j hj).1)
    have HDT := Lib.hid hS.strs
    have HFl := Lib.hid (show (flat p.dt).length ≤ 1099511627776 from Nat.le_trans (flat_len p.dt 64 hdts) (by rw [qd]; omega))
    have HXB := Lib.hid (show B ≤ w3.heap.size from Nat.le_trans (Nat.le_of_lt (by have := hE3; exact Nat.lt_of_le_of_lt lgh (World.ownsRow.lt hT gh rfl).2)) (Nat.le_refl _))
    have HNot := Lib.hid (show m.map Pt.pk = O.set k p by rw [HOset.out]; exact Hm.out)
    have HAllM := Lib.hid (show (m.eraseIdx k).map Pt.pk = O.eraseIdx k by rw [map_erase, Hm.out])
    clear hm hmk hQ hE hb1 hb1' hb2 hb3 hb12 hQ3 hE3 hK3 hu3 hlm hPut hTurn hPkM hdts hOset qh qd qc q2 hpk hkl hval hT hS f1 f2 x2 lgh lgd ne1 ne2 ne3 ev ed hshp hixh hixd HF2 HFi HO HK hcn hbx HB1
    go_wp2_with fail
    skip
    obtain ⟨c4, c5⟩ := HWX.out
    go_loop [115] (fun q => ∃ j : Nat, j ≤ nn ∧ q = .int .i64 j ∧ ∀ t (ht : t < (p.hv).length), t < j → (p.hv)[t] = true) (fun q => nn - (intOf q).toNat)
    case atStart => exact ⟨0, Nat.zero_le _, rfl, fun t _ h => by omega⟩
    case round =>
      obtain ⟨j, hj, rfl, hall⟩ := hrel
      by_cases hlt : j < nn
      · have hjl : j < (p.hv).length := by rw [HlV.out]; exact hlt
        have hji : (j : Int) < (nn : Int) := by omega
        have ej := HHV.out j hjl
        have HA := Lib.hid (fun (h : (p.hv)[j] = true) t (h1 : t < (p.hv).length) (ht : t < j + 1) => (show (p.hv)[t] = true from by
          by_cases e2 : t = j
          · subst e2; exact h
          · exact hall t h1 (by omega)))
        have HB := Lib.hid (fun (h : (p.hv)[j] = false) => HRn.out (wholeP_no (p := p) hjl h))
        clear hall
        generalize (p.hv)[j] = x at *
        clear hjl
        cases x with
        | false =>
          have hR := HB.out rfl
          subst hR
          clear HA HB
          go_wp2_with fail
          refine bodyPost_ret (v := .tuple #[.slice (some ⟨gu, uo, none⟩) m.length uc, .string ⟨#[]⟩, .bool false, .int .i64 0]) ?_ rfl (Added.of (R := (_, ByteArray.empty, false)) HQX.out HEX.out HBB.out HNot.out HKX.out)
          simp [results, Try.results18, go_sem]
        | true =>
          have HA2 := Lib.hid (HA.out rfl)
          clear HA HB
          go_wp2_with fail
          exact ⟨⟨j + 1, by omega, by go_num, HA2.out⟩, by simp [intOf]; omega⟩
      · obtain rfl : j = nn := by omega
        have hR := HRy.out (wholeP_yes (p := p) (fun t ht => hall t ht (by rw [HlV.out] at ht; exact ht)))
        subst hR
        clear hall
        go_wp2_with fail
        refine (join_any (p.dt) _ B w3.heap.size w3 HDT.out (Nat.le_refl _) (by have := HlD.out; omega) HFl.out).mono ?_
        rintro e w5 ⟨rfl, hb5⟩
        have hQ5 := HQX.out.below hb5 (Nat.le_refl _)
        have hE5 := HEX.out.below hb5 (Nat.le_refl _)
        have HWo := Lib.hid (without_any _ (m) k B w5 hQ5 hE5 HkM.out HlM.out (by have := HXB.out; have := hb5.size; omega))
        have HK5 := Lib.hid (bt HKX.out hb5)
        clear hQ5 hE5 hb5 c4 c5
        go_wp2_with fail
        refine HWo.out.mono ?_
        rintro e w6 ⟨u6, rfl, hP6, hE6, hb6⟩
        have HP6 := Lib.hid (show OwnQ w6 B u6 ((m).eraseIdx k) from .inl hP6)
        have HE6 := Lib.hid hE6
        have HK6 := Lib.hid (bt HK5.out hb6)
        clear hP6 hE6 hb6
        go_wp2_with fail
        refine bodyPost_ret (v := .tuple #[u6, .string (mk (flat (p.dt))), .bool true, .int .i64 0]) ?_ rfl (Added.of (R := (_, _, true)) HP6.out HE6.out HBB.out HAllM.out HK6.out)
        simp [results, Try.results18, go_sem]
  | false =>
    rw [hbx] at x1
    rw [setF_new hixh hbx] at HRn HRy
    obtain ⟨M, hM⟩ : ∃ M, M = m.set k ⟨{ p with hv := p.hv.set ix true, dt := p.dt.set ix (s.extract 3 s.size) }, m[k].vh, m[k].vd⟩ := ⟨_, rfl⟩
    have hPut2 : Ents ((w3.setCell ⟨gh, ix, none⟩ (.bool true)).setCell ⟨gd, ix, none⟩ (.string (s.extract 3 s.size))) B M := by rw [hM]; exact hPut
    have hTurn2 : OwnQ w3 B (.slice (some ⟨gu, uo, none⟩) m.length uc) M := by rw [hM]; exact hTurn
    have hPkM2 : M.map Pt.pk = O.set k { p with hv := p.hv.set ix true, dt := p.dt.set ix (s.extract 3 s.size) } := by rw [hM]; exact hPkM
    clear hPut hTurn hPkM
    have hML : M.length = m.length := by rw [hM, List.length_set]
    have T1 : Tch gh w3 (w3.setCell ⟨gh, ix, none⟩ (.bool true)) := (Tch.refl _ _).setCell ix _
    have T2 : Tch gd (w3.setCell ⟨gh, ix, none⟩ (.bool true)) ((w3.setCell ⟨gh, ix, none⟩ (.bool true)).setCell ⟨gd, ix, none⟩ (.string (s.extract 3 s.size))) := (Tch.refl _ _).setCell ix _
    have hS1 : OwnS (w3.setCell ⟨gh, ix, none⟩ (.bool true)) B (.slice (some ⟨gd, 0, none⟩) nn cd) p.dt := World.ownsRow.kept hS T1 (st_ne hS hT).2
    have hT1 := setOwnT (i := ix) hT true
    have hS2 := setOwnS (i := ix) hS1 (s.extract 3 s.size)
    have hT2 : OwnT ((w3.setCell ⟨gh, ix, none⟩ (.bool true)).setCell ⟨gd, ix, none⟩ (.string (s.extract 3 s.size))) B (.slice (some ⟨gh, 0, none⟩) nn ch) (p.hv.set ix true) := World.ownsRow.kept hT1 T2 (st_ne hS1 hT1).1
    have hBw := HB1.out
    have hKX := tch_new (tch_new hK3 T1 (by omega) (Nat.le_refl _)) T2 (by omega) (Nat.le_refl _)
    have hQX := (hTurn2.tchT T1 hT).tchS T2 hS1
    have hgu1 : gu < (w3.setCell ⟨gh, ix, none⟩ (.bool true)).heap.size := Nat.lt_of_lt_of_le hgu T1.size
    have d4 := (tch_cell T2 (p := ⟨gu, uo + k * 6 + 4, none⟩) hgu1 ne2).trans ((tch_cell T1 (p := ⟨gu, uo + k * 6 + 4, none⟩) hgu ne1).trans c4)
    have d5 := (tch_cell T2 (p := ⟨gu, uo + k * 6 + 5, none⟩) hgu1 ne2).trans ((tch_cell T1 (p := ⟨gu, uo + k * 6 + 5, none⟩) hgu ne1).trans c5)
    have hxs : B ≤ ((w3.setCell ⟨gh, ix, none⟩ (.bool true)).setCell ⟨gd, ix, none⟩ (.string (s.extract 3 s.size))).heap.size := Nat.le_trans (Nat.le_trans lgh (Nat.le_of_lt (World.ownsRow.lt hT gh rfl).2)) (Nat.le_trans T1.size T2.size)
    obtain ⟨X, hX⟩ : ∃ X, X = (w3.setCell ⟨gh, ix, none⟩ (.bool true)).setCell ⟨gd, ix, none⟩ (.string (s.extract 3 s.size)) := ⟨_, rfl⟩
    rw [← hX] at hPut2 hS2 hT2 hKX hQX d4 d5 hxs
    have HX := Lib.hid hX
    have HQX := Lib.hid hQX
    have HEX := Lib.hid hPut2
    have HKX := Lib.hid hKX
    have HWX := Lib.hid (And.intro d4 d5)
    have HHV := Lib.hid (fun j hj => (hT2.at j hj).1)
    have HDT := Lib.hid hS2.strs
    have HFl := Lib.hid (show (flat (p.dt.set ix (s.extract 3 s.size))).length ≤ 1099511627776 from Nat.le_trans (flat_len _ 64 (fun x hx => (List.mem_or_eq_of_mem_set hx).elim (hdts x) (fun e => by rw [e]; exact HD64.out))) (by rw [List.length_set, qd]; omega))
    have HXB := Lib.hid hxs
    have HNot := Lib.hid hPkM2
    have HAllM := Lib.hid (show (M.eraseIdx k).map Pt.pk = O.eraseIdx k by rw [map_erase, hPkM2, List.eraseIdx_set_eq])
    have HlV2 := Lib.hid (show (p.hv.set ix true).length = nn by rw [List.length_set]; exact qh)
    have HlD2 := Lib.hid (show (p.dt.set ix (s.extract 3 s.size)).length = nn by rw [List.length_set]; exact qd)
    have HlM2 := Lib.hid (show M.length ≤ 1000 by rw [hML]; exact HlM.out)
    have HkM2 := Lib.hid (show k < M.length by rw [hML]; exact hmk)
    have HlV := HlV2
    have HlD := HlD2
    have HlM := HlM2
    have HkM := HkM2
    generalize p.dt[ix] = dx at *
    clear hm hmk hQ hE hb1 hb1' hb2 hb3 hb12 hQ3 hE3 hK3 hu3 hlm hPut2 hTurn2 hPkM2 hdts hOset qh qd qc q2 hpk hkl hval hT hS lgh lgd ev ed hshp hixh hixd HF2 HFi HO HK hcn hbx HB1 hM hML T1 T2 hS1 hT1 hS2 hT2 hBw hKX hQX hgu1 d4 d5 hxs hX HlV2 HlD2 HlM2 HkM2
    go_wp2_with fail
    rw [← HX.out]
    obtain ⟨c4, c5⟩ := HWX.out
    go_loop [115] (fun q => ∃ j : Nat, j ≤ nn ∧ q = .int .i64 j ∧ ∀ t (ht : t < (p.hv.set ix true).length), t < j → (p.hv.set ix true)[t] = true) (fun q => nn - (intOf q).toNat)
    case atStart => exact ⟨0, Nat.zero_le _, rfl, fun t _ h => by omega⟩
    case round =>
      obtain ⟨j, hj, rfl, hall⟩ := hrel
      by_cases hlt : j < nn
      · have hjl : j < (p.hv.set ix true).length := by rw [HlV.out]; exact hlt
        have hji : (j : Int) < (nn : Int) := by omega
        have ej := HHV.out j hjl
        have HA := Lib.hid (fun (h : (p.hv.set ix true)[j] = true) t (h1 : t < (p.hv.set ix true).length) (ht : t < j + 1) => (show (p.hv.set ix true)[t] = true from by
          by_cases e2 : t = j
          · subst e2; exact h
          · exact hall t h1 (by omega)))
        have HB := Lib.hid (fun (h : (p.hv.set ix true)[j] = false) => HRn.out (wholeP_no (p := { p with hv := p.hv.set ix true, dt := p.dt.set ix (s.extract 3 s.size) }) hjl h))
        clear hall
        generalize (p.hv.set ix true)[j] = x at *
        clear hjl
        cases x with
        | false =>
          have hR := HB.out rfl
          subst hR
          clear HA HB
          go_wp2_with fail
          refine bodyPost_ret (v := .tuple #[.slice (some ⟨gu, uo, none⟩) m.length uc, .string ⟨#[]⟩, .bool false, .int .i64 0]) ?_ rfl (Added.of (R := (_, ByteArray.empty, false)) HQX.out HEX.out HBB.out HNot.out HKX.out)
          simp [results, Try.results18, go_sem]
        | true =>
          have HA2 := Lib.hid (HA.out rfl)
          clear HA HB
          go_wp2_with fail
          exact ⟨⟨j + 1, by omega, by go_num, HA2.out⟩, by simp [intOf]; omega⟩
      · obtain rfl : j = nn := by omega
        have hR := HRy.out (wholeP_yes (p := { p with hv := p.hv.set ix true, dt := p.dt.set ix (s.extract 3 s.size) }) (fun t ht => hall t ht (by rw [HlV.out] at ht; exact ht)))
        subst hR
        clear hall
        go_wp2_with fail
        refine (join_any (p.dt.set ix (s.extract 3 s.size)) _ B X.heap.size X HDT.out (Nat.le_refl _) (by have := HlD.out; omega) HFl.out).mono ?_
        rintro e w5 ⟨rfl, hb5⟩
        have hQ5 := HQX.out.below hb5 (Nat.le_refl _)
        have hE5 := HEX.out.below hb5 (Nat.le_refl _)
        have HWo := Lib.hid (without_any _ (M) k B w5 hQ5 hE5 HkM.out HlM.out (by have := HXB.out; have := hb5.size; omega))
        have HK5 := Lib.hid (bt HKX.out hb5)
        clear hQ5 hE5 hb5 c4 c5
        go_wp2_with fail
        refine HWo.out.mono ?_
        rintro e w6 ⟨u6, rfl, hP6, hE6, hb6⟩
        have HP6 := Lib.hid (show OwnQ w6 B u6 ((M).eraseIdx k) from .inl hP6)
        have HE6 := Lib.hid hE6
        have HK6 := Lib.hid (bt HK5.out hb6)
        clear hP6 hE6 hb6
        go_wp2_with fail
        refine bodyPost_ret (v := .tuple #[u6, .string (mk (flat (p.dt.set ix (s.extract 3 s.size)))), .bool true, .int .i64 0]) ?_ rfl (Added.of (R := (_, _, true)) HP6.out HE6.out HBB.out HAllM.out HK6.out)
        simp [results, Try.results18, go_sem]
end Go.Proofs.Ytmjamjadfnbkdaa
