/-
  Fragments: the walk of what leaves out the old entries, the program's.
-/
import Derived.Test.YtmjamjadfnbkdaaFsl
import Derived.Test.YtmjamjadfnbkdaaFse
import Derived.Deep.DeepFit
open Go Go.RowKit Go.Proofs
namespace Go.Proofs.Ytmjamjadfnbkdaa
namespace Hub
def young (now life : Int) (p : Pt) : Bool := decide (limF now - p.pk.since ≤ limF life)
theorem young_map (now life : Int) (l : List Pt) : (l.filter (young now life)).map Pt.pk = (l.map Pt.pk).filter fun p => decide (limF now - p.since ≤ limF life) := by
  rw [List.filter_map]; rfl
theorem filter_step {P : Pt → Bool} (l : List Pt) (k : Nat) (h : k < l.length) : (l.take (k + 1)).filter P = (l.take k).filter P ++ (if P l[k] = true then [l[k]] else []) := by
  rw [List.take_succ_eq_append_getElem h, List.filter_append]
  congr 1
  by_cases e : P l[k] = true
  · rw [if_pos e, List.filter_cons_of_pos e]; rfl
  · rw [if_neg e, List.filter_cons_of_neg e]; rfl
theorem validF_since {p : Pk} (h : validF p = true) : 0 ≤ p.since ∧ p.since ≤ 1099511627776 := by
  unfold validF at h
  simp only [Bool.and_eq_true] at h
  obtain ⟨⟨⟨h1, _⟩, _⟩, _⟩ := h
  unfold headOk at h1
  simp only [decide_eq_true_eq] at h1
  omega
theorem limF_sub (now : Int) {s : Int} (h0 : 0 ≤ s) (h1 : s ≤ 1099511627776) : IntKind.i64.wrap (limF now - s) = limF now - s := by
  have a := limF_lo now
  have b := limF_hi now
  exact IntWalk.i64_in _ ⟨by omega, by omega⟩
end Hub
open Hub

set_option maxRecDepth 20000 in
set_option maxHeartbeats 4000000 in
theorem expire_any (v : Value) (l : List Pt) (lo N : Nat) (now life : Int) (w : World) (hv : PtsAt lo N w v l) (hN : N ≤ w.heap.size) (hl : l.length ≤ 1000) :
    Calls Try.prog 21 #[v, .int .i64 now, .int .i64 life] w fun e w' => ∃ u m, e = .returned u ∧ m.map Pt.pk = expireF (l.map Pt.pk) now life ∧ PtsAt w.heap.size w'.heap.size w' u m ∧ Below w.heap.size w w' := by
  obtain ⟨i0, hi0, hz0, hz1, hz2⟩ := info_parts pt_info
  have HO := Lib.hid (order_any v l lo N w hv hN hl)
  have HE := Lib.hid (show expireF (l.map Pt.pk) now life = (orderF (l.map Pt.pk)).filter fun p => decide (limF now - p.since ≤ limF life) from rfl)
  have HVd := Lib.hid (orderF_valid (l.map Pt.pk))
  have HLn := Lib.hid (orderF_len (l.map Pt.pk))
  have HL1 := Lib.hid (fun W => limit_any now W)
  have HL2 := Lib.hid (fun W => limit_any life W)
  generalize expireF (l.map Pt.pk) now life = R at *
  clear hv hN hl
  go_enter Try.func21, Try.ntmps21
  go_wp2_with fail
  refine HO.out.mono ?_
  rintro e w2 ⟨u, m, rfl, hm, hQ, hE, hb2⟩
  rw [← hm] at HVd HLn HE
  have HR2 := Lib.hid (fun w' (k : Below w2.heap.size w2 w') => (hQ.rows hE.shp).below k (Nat.le_refl _))
  have HE2 := Lib.hid hE
  obtain ⟨a, cap, rfl, -, -⟩ := hQ.rows hE.shp
  obtain ⟨n, hn⟩ : ∃ n, m.length = n := ⟨_, rfl⟩
  have Hn := Lib.hid hn
  rw [hn] at HR2 ⊢
  have hn8 : n ≤ 8 := by have := HLn.out; rw [List.length_map] at this; omega
  have Hb2 := Lib.hid hb2
  clear hn hm hQ hE hb2 HO
  go_wp2_with fail
  go_loopw [7, 13] (fun u i wr => ∃ k : Nat, k ≤ n ∧ i = .int .i64 k ∧ OwnP wr w2.heap.size u ((m.take k).filter (young now life)) ∧ Below w2.heap.size w2 wr) (fun _ i _ => n - (intOf i).toNat)
  case atStart => exact ⟨0, Nat.zero_le _, rfl, OwnP.nil _ _, Below.refl _ _⟩
  case round =>
    obtain ⟨k, hk, rfl, hP, hb⟩ := hrel
    by_cases hlt : k < n
    · have hkl : k < m.length := by rw [Hn.out]; exact hlt
      have hki : (k : Int) < (n : Int) := by omega
      obtain ⟨bk, off, rfl, _, hbk, hsix⟩ := (HR2.out wr hb).cells hkl
      have hst := filter_step (P := young now life) m k hkl
      have hvs := validF_since (HVd.out _ (List.mem_map.2 ⟨_, List.getElem_mem hkl, rfl⟩))
      have hsub := limF_sub now hvs.1 hvs.2
      have hone := one6 _ (HE2.out.shp _ (List.getElem_mem hkl))
      have hlen : ((m.take k).filter (young now life)).length ≤ 8 := Nat.le_trans (List.length_filter_le _ _) (by rw [List.length_take]; omega)
      have Hst := Lib.hid hst
      have HOne := Lib.hid hone
      have HLen := Lib.hid hlen
      have HP := Lib.hid hP
      have Hb := Lib.hid hb
      obtain ⟨⟨⟨xa, xn, xc, hvh⟩, ya, yn, yc, hvd⟩, c0, c1, c2, c3, c4, c5⟩ := hsix
      clear hst hone hlen hP hb hvs
      generalize m[k] = p at *
      obtain ⟨p, vh, vd⟩ := p
      dsimp only at hvh hvd c0 c1 c2 c3 c4 c5 hsub
      subst hvh hvd
      obtain ⟨Wb, hWb⟩ : ∃ W, W = wr.alloc (.cells #[.int .i64 p.src, .int .i64 p.id, .int .i64 p.cnt, .int .i64 p.since, .slice xa xn xc, .slice ya yn yc] 44) := ⟨_, rfl⟩
      have hX : PBox wr.heap.size ⟨p, .slice xa xn xc, .slice ya yn yc⟩ Wb := by rw [hWb]; exact PBox.new wr ⟨p, _, _⟩
      have kb : Below wr.heap.size wr Wb := by rw [hWb]; exact below_box _ _
      have HX := Lib.hid (hX.six ⟨⟨_, _, _, rfl⟩, _, _, _, rfl⟩)
      have HPb := Lib.hid (HP.out.below kb (Nat.le_refl _))
      have HKb := Lib.hid (bt Hb.out kb)
      have HWb := Lib.hid hWb
      have hbx : bk < wr.heap.size := Nat.lt_of_lt_of_le hbk (Nat.le_trans (Nat.le_refl _) Hb.out.size)
      clear hX kb hWb
      go_wp2_with fail
      rw [← HWb.out]
      obtain ⟨-, x0, x1, x2, x3, x4, x5⟩ := HX.out
      dsimp only [Nat.zero_add] at x0 x1 x2 x3 x4 x5
      by_cases hy : limF now - p.since ≤ limF life
      · have dy : decide (limF now - p.since ≤ limF life) = true := decide_eq_true hy
        rw [if_pos (show young now life ⟨p, .slice xa xn xc, .slice ya yn yc⟩ = true from dy)] at Hst
        clear hy
        generalize limF now = A at *
        generalize limF life = L at *
        go_quiet (first | (go_at_call 28; exact quiet_ret (HL1.out _)) | (go_at_call 28; exact quiet_ret (HL2.out _)))
        go_wp2_with (at_builtin; refine wpList_append_own _ rfl _ _ 31 rfl w2.heap.size 44 i0 (.agg #[.int .i64 0, .int .i64 0, .int .i64 0, .int .i64 0, .slice none 0 0, .slice none 0 0]) 6 80 Try.underlying31 hi0 hz0 hz1 hz2 rfl (by decide) _ _ _ rfl ((HPb.out.below (Below.drewN' (Below.refl _ _) _) (Nat.le_refl _)).alloc _) ⟨Wb.heap.size, 0, none⟩ 1 1 (pcells ⟨p, .slice xa xn xc, .slice ya yn yc⟩) rfl rfl ?c1 ?c2 ?c3 ?c4 ?c5 ?_)
        all_goals try clear hsub
        try case c1 => exact news6 (Wb.drewN _) ⟨p, .slice xa xn xc, .slice ya yn yc⟩ _ _ rfl
        try case c2 => exact HOne.out
        try case c3 => have := HLen.out; unfold maxLen; omega
        try case c4 => have := HLen.out; omega
        try case c5 => have := HKb.out.size; simp; omega
        intro v' w5 hown5 hgrow5 _
        have hP5 : OwnP w5 w2.heap.size v' ((m.take k).filter (young now life) ++ [⟨p, .slice xa xn xc, .slice ya yn yc⟩]) := by
          unfold OwnP
          rw [List.length_append, List.flatMap_append, List.flatMap_cons, List.flatMap_nil, List.append_nil]; exact hown5
        have HP5 := Lib.hid hP5
        have HK5 := Lib.hid (((Below.drewN' HKb.out nq).alloc (by have := HKb.out.size; exact this) _).grown hgrow5 (by have := HKb.out.size; simp; omega) (fun g hg => (World.ownsRow.lt HPb.out g hg).1))
        clear hP5 hown5 hgrow5
        go_wp2_with fail
        exact ⟨⟨k + 1, by omega, by go_num, by rw [Hst.out]; exact HP5.out, HK5.out⟩, by simp [intOf]; omega⟩
      · have dy : decide (limF now - p.since ≤ limF life) = false := decide_eq_false hy
        rw [if_neg (by rw [show young now life ⟨p, .slice xa xn xc, .slice ya yn yc⟩ = false from dy]; decide), List.append_nil] at Hst
        clear hy
        generalize limF now = A at *
        generalize limF life = L at *
        go_quiet (first | (go_at_call 28; exact quiet_ret (HL1.out _)) | (go_at_call 28; exact quiet_ret (HL2.out _)))
        clear hsub
        go_wp2_with fail
        exact ⟨⟨k + 1, by omega, by go_num, by rw [Hst.out]; exact HPb.out.below (Below.drewN' (Below.refl _ _) _) (Nat.le_refl _), Below.drewN' HKb.out _⟩, by simp [intOf]; omega⟩
    · obtain rfl : k = n := by omega
      rw [List.take_of_length_le (by rw [Hn.out]; exact Nat.le_refl _)] at hP
      have hR : (m.filter (young now life)).map Pt.pk = R := by rw [young_map, HE.out]
      have HRR := Lib.hid hR
      have HP := Lib.hid hP
      have hEf := (HE2.out.below hb (Nat.le_refl _)).sub (List.filter_sublist (p := young now life) (l := m))
      have HEf := Lib.hid hEf
      have Hb := Lib.hid hb
      clear hP hR hb hEf
      go_wp2_with fail
      go_ret
      exact ⟨_, _, rfl, HRR.out, ⟨(HP.out.rows HEf.out.shp).wide Hb2.out.size (Nat.le_refl _), HEf.out.dat⟩, bt Hb2.out Hb.out⟩
end Go.Proofs.Ytmjamjadfnbkdaa
