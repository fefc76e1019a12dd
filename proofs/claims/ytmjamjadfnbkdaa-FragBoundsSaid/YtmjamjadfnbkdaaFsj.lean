/-
  Fragments: the walks of what adds a bad piece, and the piece of a message of one, the program's.
-/
import Derived.Test.YtmjamjadfnbkdaaFse
open Go Go.RowKit Go.Proofs
namespace Go.Proofs.Ytmjamjadfnbkdaa
open Hub

set_option maxRecDepth 20000 in
set_option maxHeartbeats 2000000 in
theorem addBad_any (v : Value) (src now : Int) (s : ByteArray) (w : World) (hs : s.size ≤ 1099511627776) (hc : chkF s ≠ 0) :
    Calls Try.prog 18 #[v, .int .i64 src, .int .i64 now, .string s] w fun e w' => Added w w' e ([], ByteArray.empty, false) (chkF s) := by
  have HK := Lib.hid (fun w' => chk_any s w' hs)
  have hne : (chkF s != 0) = true := by simpa using hc
  generalize chkF s = c at *
  clear hc
  go_enter Try.func18, Try.ntmps18
  go_wp2_with (go_at_call 15; refine (HK.out _).mono ?_; rintro e w1 ⟨rfl, hb1⟩)
  refine bodyPost_ret (v := .tuple #[.slice none 0 0, .string ⟨#[]⟩, .bool false, .int .i64 c]) ?_ rfl ⟨_, [], rfl, rfl, PtsAt.nil _ _ _, hb1⟩
  simp [results, Try.results18, go_sem]

set_option maxRecDepth 20000 in
set_option maxHeartbeats 4000000 in
theorem addOne_any (v : Value) (l : List Pt) (lo N : Nat) (src now : Int) (s : ByteArray) (w : World) (hv : PtsAt lo N w v l) (hN : N ≤ w.heap.size) (hl : l.length ≤ 1000) (hs : s.size ≤ 1099511627776) (hc : chkF s = 0)
    (O0 : List Pk) (hO : orderF (l.map Pt.pk) = O0) (hk : findF O0 src (byI s 0) = -1) (h1 : byI s 2 = 1) :
    Calls Try.prog 18 #[v, .int .i64 src, .int .i64 now, .string s] w fun e w' => Added w w' e (O0, s.extract 3 s.size, true) 0 := by
  have hC := chkF_zero hc
  obtain ⟨z3, c1lo, c1hi, hix, hfit⟩ := hC
  have hi0 : (0 : Int) < (s.size : Int) := by omega
  have hi1 : (1 : Int) < (s.size : Int) := by omega
  have hi2 : (2 : Int) < (s.size : Int) := by omega
  have hi3 : (3 : Int) ≤ (s.size : Int) := by omega
  have e0 := byI_at s 0 (Nat.lt_of_lt_of_le (by decide) z3)
  have e1 := byI_at s 1 (Nat.lt_of_lt_of_le (by decide) z3)
  have e2 := byI_at s 2 (Nat.lt_of_lt_of_le (by decide) z3)
  have l0 := byI_lo s 0
  have l1 := byI_lo s 1
  have u0 := byI_hi s 0
  have u1 := byI_hi s 1
  have hd64 : (s.extract 3 s.size).size ≤ 64 := by have := fits_le hfit; rw [ByteArray.size_extract]; omega
  obtain ⟨ix, hixe⟩ := Int.eq_ofNat_of_zero_le l1
  obtain ⟨cc, hcce⟩ := Int.eq_ofNat_of_zero_le (show 0 ≤ byI s 2 by omega)
  have HK := Lib.hid (fun w' => chk_any s w' hs)
  have HO := Lib.hid (fun w' (t : Below w.heap.size w w') => order_any v l lo N w' (hv.below t hN) (Nat.le_trans hN t.size) hl)
  rw [hc] at HK
  have HD64 := Lib.hid hd64
  rw [hO] at HO
  have hol : O0.length ≤ 8 := by rw [← hO]; exact orderF_len (l.map Pt.pk)
  have HFi := Lib.hid (fun w' u (m : List Pt) (hm : m.map Pt.pk = O0) (h : RowsAt 0 w'.heap.size w' u m) => (show Calls Try.prog 26 #[u, .int .i64 src, .int .i64 (byI s 0)] w' _ from by
    have := find_any u m 0 w'.heap.size src (byI s 0) w' h (Nat.le_refl _) (by have := congrArg List.length hm; rw [List.length_map] at this; omega)
    rw [hm, hk] at this; exact this))
  rw [hixe] at e1
  rw [h1] at e2
  generalize byI s 0 = b0 at *
  have hi255 : ix ≤ 255 := by omega
  clear hO hk hfit c1lo c1hi hc hl hN hv l1 u1 hd64 h1 hixe hcce hix hol
  go_enter Try.func18, Try.ntmps18
  go_wp2_with (go_at_call 15; refine (HK.out _).mono ?_; rintro e w1 ⟨rfl, hb1⟩)
  go_quiet (fail)
  go_wp2_with fail
  have hb1' := Below.drewN' hb1 nq
  refine (HO.out _ hb1').mono ?_
  rintro e w2 ⟨u, m, rfl, hm, hQ, hE, hb2⟩
  have HB1 := Lib.hid (hb1'.size)
  have hb12 := bt hb1' hb2
  generalize (w1.drewN nq).heap.size = B at *
  have hu := hQ.rows hE.shp
  have HF2 := Lib.hid (HFi.out w2 u m hm (hu.wide (Nat.zero_le _) (Nat.le_refl _)))
  go_wp2_with fail
  refine HF2.out.mono ?_
  rintro e w3 ⟨rfl, hb3⟩
  have HQ3 := Lib.hid (hQ.below hb3 (Nat.le_refl _))
  have HE3 := Lib.hid (hE.below hb3 (Nat.le_refl _))
  have HK3 := Lib.hid (bt hb12 hb3)
  have Hm := Lib.hid hm
  clear hQ hE hb1 hb1' hb2 hb3 hb12 hu HF2 HFi HO HK hm
  go_wp2_with fail
  refine bodyPost_ret (v := .tuple #[u, .string (s.extract 3 s.size), .bool true, .int .i64 0]) ?_ rfl (Added.of (R := (_, _, true)) HQ3.out HE3.out HB1.out Hm.out HK3.out)
  simp [results, Try.results18, go_sem]

set_option maxRecDepth 20000 in
set_option maxHeartbeats 4000000 in
theorem addOneT_any (v : Value) (l : List Pt) (lo N : Nat) (src now : Int) (s : ByteArray) (w : World) (hv : PtsAt lo N w v l) (hN : N ≤ w.heap.size) (hl : l.length ≤ 1000) (hs : s.size ≤ 1099511627776) (hc : chkF s = 0)
    (O0 : List Pk) (hO : orderF (l.map Pt.pk) = O0) (j : Nat) (hk : findF O0 src (byI s 0) = (j : Int)) (hj : j < O0.length) (h1 : byI s 2 = 1) :
    Calls Try.prog 18 #[v, .int .i64 src, .int .i64 now, .string s] w fun e w' => Added w w' e (O0.eraseIdx j, s.extract 3 s.size, true) 0 := by
  have hC := chkF_zero hc
  obtain ⟨z3, c1lo, c1hi, hix, hfit⟩ := hC
  have hi0 : (0 : Int) < (s.size : Int) := by omega
  have hi1 : (1 : Int) < (s.size : Int) := by omega
  have hi2 : (2 : Int) < (s.size : Int) := by omega
  have hi3 : (3 : Int) ≤ (s.size : Int) := by omega
  have e0 := byI_at s 0 (Nat.lt_of_lt_of_le (by decide) z3)
  have e1 := byI_at s 1 (Nat.lt_of_lt_of_le (by decide) z3)
  have e2 := byI_at s 2 (Nat.lt_of_lt_of_le (by decide) z3)
  have l0 := byI_lo s 0
  have l1 := byI_lo s 1
  have u0 := byI_hi s 0
  have u1 := byI_hi s 1
  have hd64 : (s.extract 3 s.size).size ≤ 64 := by have := fits_le hfit; rw [ByteArray.size_extract]; omega
  obtain ⟨ix, hixe⟩ := Int.eq_ofNat_of_zero_le l1
  obtain ⟨cc, hcce⟩ := Int.eq_ofNat_of_zero_le (show 0 ≤ byI s 2 by omega)
  have HK := Lib.hid (fun w' => chk_any s w' hs)
  have HO := Lib.hid (fun w' (t : Below w.heap.size w w') => order_any v l lo N w' (hv.below t hN) (Nat.le_trans hN t.size) hl)
  rw [hc] at HK
  have HD64 := Lib.hid hd64
  rw [hO] at HO
  have hol : O0.length ≤ 8 := by rw [← hO]; exact orderF_len (l.map Pt.pk)
  have hval : validF O0[j] = true := orderF_valid (l.map Pt.pk) _ (by rw [hO]; exact List.getElem_mem hj)
  obtain ⟨nn, q2, -, -, -, qc⟩ := validF_len hval
  have hcne : (O0[j].cnt != 1) = true := by rw [qc]; simp; omega
  have HFi := Lib.hid (fun w' u (m : List Pt) (hm : m.map Pt.pk = O0) (h : RowsAt 0 w'.heap.size w' u m) => (show Calls Try.prog 26 #[u, .int .i64 src, .int .i64 (byI s 0)] w' _ from by
    have := find_any u m 0 w'.heap.size src (byI s 0) w' h (Nat.le_refl _) (by have := congrArg List.length hm; rw [List.length_map] at this; omega)
    rw [hm, hk] at this; exact this))
  rw [hixe] at e1
  rw [h1] at e2
  generalize byI s 0 = b0 at *
  have hi255 : ix ≤ 255 := by omega
  have Hol := Lib.hid hol
  clear hO hk hfit c1lo c1hi hc hl hN hv l1 u1 hd64 h1 hixe hcce hix hol hval q2 qc
  go_enter Try.func18, Try.ntmps18
  go_wp2_with (go_at_call 15; refine (HK.out _).mono ?_; rintro e w1 ⟨rfl, hb1⟩)
  go_quiet (fail)
  go_wp2_with fail
  have hb1' := Below.drewN' hb1 nq
  refine (HO.out _ hb1').mono ?_
  rintro e w2 ⟨u, m, rfl, hm, hQ, hE, hb2⟩
  have HB1 := Lib.hid (hb1'.size)
  have hb12 := bt hb1' hb2
  have HBx := Lib.hid (show (w1.drewN nq).heap.size ≤ w2.heap.size from hb2.size)
  generalize (w1.drewN nq).heap.size = B at *
  have hu := hQ.rows hE.shp
  have HF2 := Lib.hid (HFi.out w2 u m hm (hu.wide (Nat.zero_le _) (Nat.le_refl _)))
  go_wp2_with fail
  refine HF2.out.mono ?_
  rintro e w3 ⟨rfl, hb3⟩
  have hQ3 := hQ.below hb3 (Nat.le_refl _)
  have hE3 := hE.below hb3 (Nat.le_refl _)
  have hK3 := bt hb12 hb3
  have hlm : m.length = O0.length := by rw [← hm, List.length_map]
  have hu3 := hQ3.rows hE3.shp
  obtain ⟨ua0, uc0, rfl, -, -⟩ := id hu
  have hjm : j < m.length := by rw [hlm]; exact hj
  have HWo := Lib.hid (without_any _ m j B w3 hQ3 hE3 hjm (by rw [hlm]; have := Hol.out; omega) (Nat.le_trans HBx.out hb3.size))
  obtain ⟨gu0, uo0, rfl, _, hgu0, hsix⟩ := hu3.cells hjm
  have hpk0 : m[j].pk = O0[j] := by
    have : (m.map Pt.pk)[j]'(by rw [List.length_map]; exact hjm) = O0[j] := by simp only [hm]
    rw [List.getElem_map] at this; exact this
  obtain ⟨_, _, _, c2, _, _, _⟩ := hsix
  rw [hpk0] at c2
  have hjl : (j : Int) < (m.length : Int) := by omega
  have Hm := Lib.hid hm
  have HK3 := Lib.hid hK3
  clear hQ hE hb1 hb1' hb2 hb3 hb12 hu HF2 HFi HO HK hlm hm hQ3 hE3 hK3 hu3 hpk0
  go_wp2_with fail
  refine HWo.out.mono ?_
  rintro e w4 ⟨u4, rfl, hP4, hE4, hb4⟩
  have HQ4 := Lib.hid (show OwnQ w4 B u4 (m.eraseIdx j) from .inl hP4)
  have HE4 := Lib.hid hE4
  have HK4 := Lib.hid (bt HK3.out hb4)
  have Hm4 := Lib.hid (show (m.eraseIdx j).map Pt.pk = O0.eraseIdx j by rw [map_erase, Hm.out])
  clear hP4 hE4 hb4 c2 HWo
  go_wp2_with fail
  refine bodyPost_ret (v := .tuple #[u4, .string (s.extract 3 s.size), .bool true, .int .i64 0]) ?_ rfl (Added.of (R := (_, _, true)) HQ4.out HE4.out HB1.out Hm4.out HK4.out)
  simp [results, Try.results18, go_sem]
end Go.Proofs.Ytmjamjadfnbkdaa
