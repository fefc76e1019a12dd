/-
  The walk of what reads a description, the reference's.
-/
import Derived.Test.YtbbfbeacgnimpaaFirM
import Derived.Test.YtbbfbeacgnimpaaWirI
open Go Go.RowKit Go.Proofs
namespace Go.Proofs.Ytbbfbeacgnimpaa
open Hub
set_option maxHeartbeats 1000000 in
theorem xDec_any (s : ByteArray) (w : World) (hs : s.size ≤ 1099511627776) :
    Calls Try.prog 15 #[.string s] w fun e w' => ∃ v, e = .returned (.tuple #[fwv (decFw (bl s)).1 v, .int .i64 (decFw (bl s)).2]) ∧ IntsAt w.heap.size w'.heap.size w' v (decFw (bl s)).1.sums ∧ Below w.heap.size w w' := by
  have HN := Lib.hid (fun w => xNew_any s w hs)
  have hint := (rInts_short 64 (rInt (rInt ⟨bl s, 0⟩).2).2).2
  have hrd : rdFw (bl s) = (⟨(rInt ⟨bl s, 0⟩).1, (rInt (rInt ⟨bl s, 0⟩).2).1, (rInts 64 (rInt (rInt ⟨bl s, 0⟩).2).2).1⟩, (rInts 64 (rInt (rInt ⟨bl s, 0⟩).2).2).2) := rfl
  have E1 := Lib.hid (fun h => decFw_e1 (s := bl s) h)
  have E2 := Lib.hid (fun h => decFw_e2 (s := bl s) h)
  have E3 := Lib.hid (fun h => decFw_e3 (s := bl s) h)
  rw [hrd] at E1 E2 E3
  clear hrd
  have H1 := Lib.hid (fun B S w h => xInt_any B S ⟨bl s, 0⟩ w h)
  generalize rInt ⟨bl s, 0⟩ = o1 at *
  have H2 := Lib.hid (fun B S w h => xInt_any B S o1.2 w h)
  generalize rInt o1.2 = o2 at *
  have H3 := Lib.hid (fun B S w h => xInts_any B S o2.2 64 w h)
  generalize rInts 64 o2.2 = o3 at *
  generalize decFw (bl s) = D at *
  go_enter Try.func15, Try.ntmps15
  go_wp2_with fail
  refine (HN.out _).mono ?_
  rintro e w1 ⟨rfl, hrd, hb, hsz⟩
  have hrd1 : RdR (w.heap.size + 1) s ⟨bl s, 0⟩ w1 := by simpa using hrd
  have hb1 : Below (w.heap.size + 1) (w.alloc (.cells #[.int .i64 0, .int .i64 0, .slice none 0 0] 24)) w1 := by simpa using hb
  have hQ1 : Fb w.heap.size (.int .i64 0) (.int .i64 0) (.slice none 0 0) w1 := Fb.below (show Fb w.heap.size _ _ _ (w.alloc _) from heap_alloc_new w _) hb1 (by omega)
  have hw1 : Below w.heap.size w w1 := (below_box w _).trans (hb1.mono (by omega))
  clear hrd hb hsz hb1
  go_wp2_with fail
  refine (H1.out _ _ _ hrd1).mono ?_
  rintro e w3 ⟨rfl, hrd3, ht3⟩
  have hQ3 := hQ1.tch ht3 (by omega)
  have hw3 := tch_new hw1 ht3 (by omega) (Nat.le_refl _)
  have hK3 : w.heap.size + 2 ≤ w3.heap.size := hrd3.lt
  clear hrd1 ht3 hQ1 hw1
  go_wp2_with fail
  have hF4 : Fb w3.heap.size (.int .i64 o1.1) (.int .i64 0) (.slice none 0 0) (w3.alloc (.cells #[.int .i64 o1.1, .int .i64 0, .slice none 0 0] 24)) := heap_alloc_new w3 _
  have hQ4 := hQ3.below (below_box w3 (.cells #[.int .i64 o1.1, .int .i64 0, .slice none 0 0] 24)) hQ3.lt
  have hrd4 := RdR.below hrd3 (below_box w3 (.cells #[.int .i64 o1.1, .int .i64 0, .slice none 0 0] 24)) hrd3.lt
  have hw4 : Below w.heap.size w (w3.alloc (.cells #[.int .i64 o1.1, .int .i64 0, .slice none 0 0] 24)) := hw3.alloc hw3.size _
  generalize w3.alloc (.cells #[.int .i64 o1.1, .int .i64 0, .slice none 0 0] 24) = W4 at *
  clear hQ3 hrd3 hw3
  generalize w3.heap.size = K at *
  refine (H2.out _ _ _ hrd4).mono ?_
  rintro e w5 ⟨rfl, hrd5, ht5⟩
  have hF5 := hF4.tch ht5 (by omega)
  have hQ5 := hQ4.tch ht5 (by omega)
  have hw5 := tch_new hw4 ht5 (by omega) (Nat.le_refl _)
  have c51 := hF5.c1
  have f5 := hF5.f 1
  clear hrd4 ht5 hF4 hQ4 hw4
  go_wp2_with fail
  have hF6 := hF5.set1 (.int .i64 o2.1)
  have T6 : Tch (K) w5 (w5.setCell ⟨K, 1, none⟩ (.int .i64 o2.1)) := (Tch.refl _ _).setCell 1 _
  have hQ6 := hQ5.tch T6 (by omega)
  have hrd6 := RdR.kept hrd5 T6 (by omega)
  have hw6 := tch_new hw5 T6 (by omega) (Nat.le_refl _)
  generalize w5.setCell ⟨K, 1, none⟩ (.int .i64 o2.1) = W6 at *
  clear T6 hF5 hQ5 hrd5 hw5 c51 f5
  refine (H3.out _ _ _ hrd6).mono ?_
  rintro e w7 ⟨v, rfl, hv7, hrd7, ht7⟩
  obtain ⟨va, vn, vc, rfl⟩ : ∃ a n c, v = .slice a n c := by
    rcases hv7.2 with ⟨hv, _⟩ | ⟨g, cap, cur, hv, _⟩
    · exact ⟨_, _, _, hv⟩
    · exact ⟨_, _, _, hv⟩
  have hF7 := hF6.tch ht7 (by omega)
  have hQ7 := hQ6.tch ht7 (by omega)
  have hw7 := tch_new hw6 ht7 (by omega) (Nat.le_refl _)
  have hW6 : K < W6.heap.size := hF6.lt
  have c72 := hF7.c2
  have f7 := hF7.f 2
  clear hrd6 ht7 hF6 hQ6 hw6
  go_wp2_with fail
  have hF8 := hF7.set2 (.slice va vn vc)
  have T8 : Tch (K) w7 (w7.setCell ⟨K, 2, none⟩ (.slice va vn vc)) := (Tch.refl _ _).setCell 2 _
  have hQ8 := hQ7.tch T8 (by omega)
  have hrd8 := RdR.kept hrd7 T8 (by omega)
  have hw8 := tch_new hw7 T8 (by omega) (Nat.le_refl _)
  have hv8 := hv7.tch T8 (by omega)
  generalize w7.setCell ⟨K, 2, none⟩ (.slice va vn vc) = W8 at *
  clear T8 hF7 hQ7 hrd7 hw7 c72 f7 hv7
  refine (xEnd_any _ _ _ _ hrd8).mono ?_
  rintro e w9 ⟨rfl, n9, rfl⟩
  replace hF8 : Fb K (.int .i64 o1.1) (.int .i64 o2.1) (.slice va vn vc) (W8.drewN n9) := hF8
  replace hQ8 : Fb w.heap.size (.int .i64 0) (.int .i64 0) (.slice none 0 0) (W8.drewN n9) := hQ8
  replace hv8 : OwnI (W8.drewN n9) W6.heap.size (.slice va vn vc) o3.1 := hv8
  replace hw8 : Below w.heap.size w (W8.drewN n9) := Below.drewN' hw8 n9
  clear hrd8
  generalize W8.drewN n9 = W8 at *
  have c80 := hF8.c0
  have c81 := hF8.c1
  have c82 := hF8.c2
  have d80 := hQ8.c0
  have d81 := hQ8.c1
  have d82 := hQ8.c2
  have g80 := hQ8.f 0
  have g81 := hQ8.f 1
  have g82 := hQ8.f 2
  have hne : w.heap.size ≠ K := by omega
  have hv9 : IntsAt (w.heap.size + 1) W8.heap.size W8 (.slice va vn vc) o3.1 := by
    obtain ⟨a, cap, e1, h1⟩ := hv8.ints
    refine ⟨a, cap, e1, fun hne => ?_⟩
    obtain ⟨b, off, e2, h2, h3, h4⟩ := h1 hne
    exact ⟨b, off, e2, by omega, h3, h4⟩
  clear hv8
  have HK := Lib.hid (xChk_any ⟨o1.1, o2.1, o3.1⟩ (.slice va vn vc) _ _ W8 hv9 (Nat.le_refl _) (by show o3.1.length ≤ _; omega))
  unfold fwv at HK
  generalize chkF ⟨o1.1, o2.1, o3.1⟩ = C at *
  by_cases h1 : rEnd o3.2 = 0
  · have h1b : (rEnd o3.2 == 0) = true := by simpa using h1
    go_wp2_with fail
    refine HK.out.mono ?_
    rintro e w9 ⟨rfl, hb9⟩
    have hF9 := hF8.below hb9 hF8.lt
    have hQ9 := hQ8.below hb9 hQ8.lt
    have hw9 := hw8.trans (hb9.mono hw8.size)
    have hv10 := hv9.below hb9 (Nat.le_refl _)
    have HV := Lib.hid hv10
    have HS9 := Lib.hid hb9.size
    have c90 := hF9.c0
    have c91 := hF9.c1
    have c92 := hF9.c2
    have e90 := hQ9.c0
    have e91 := hQ9.c1
    have e92 := hQ9.c2
    have k90 := hQ9.f 0
    have k91 := hQ9.f 1
    have k92 := hQ9.f 2
    clear c80 c81 c82 d80 d81 d82 g80 g81 g82 hF8 hQ8 hw8 hv9 hb9 hv10
    by_cases h2 : C = 0
    · have h2n : (C != 0) = false := by simpa using h2
      have hD := E3.out (by omega) (by omega)
      clear E1 E2 E3 HK h1 h1b h2
      subst hD
      go_wp2_with fail
      have hQ := hQ9.set (.int .i64 o1.1) (.int .i64 o2.1) (.slice va vn vc)
      have hT := Fb.tset w9 w.heap.size (.int .i64 o1.1) (.int .i64 o2.1) (.slice va vn vc)
      have q0 := hQ.c0
      have q1 := hQ.c1
      have q2 := hQ.c2
      refine bodyPost_ret (v := .tuple #[fwv ⟨o1.1, o2.1, o3.1⟩ (.slice va vn vc), .int .i64 0]) ?_ rfl ⟨_, rfl, (HV.out.tch hT (by omega) HS9.out).wide (by omega) (Nat.le_trans HS9.out hT.size), tch_new hw9 hT (Nat.le_refl _) (Nat.le_refl _)⟩
      simp [results, Try.results15, go_sem, fwv, q0, q1, q2]
    · have h2n : (C != 0) = true := by simpa using h2
      have hD := E2.out (by omega) h2
      clear E1 E2 E3 HK h1 h1b h2
      subst hD
      go_wp2_with fail
      have hQ := hQ9.set (.int .i64 0) (.int .i64 0) (.slice none 0 0)
      have hT := Fb.tset w9 w.heap.size (.int .i64 0) (.int .i64 0) (.slice none 0 0)
      have q0 := hQ.c0
      have q1 := hQ.c1
      have q2 := hQ.c2
      refine bodyPost_ret (v := .tuple #[fwv noFw (.slice none 0 0), .int .i64 C]) ?_ rfl ⟨_, rfl, IntsAt.none _ _ _, tch_new hw9 hT (Nat.le_refl _) (Nat.le_refl _)⟩
      simp [results, Try.results15, go_sem, fwv, noFw, q0, q1, q2]
  · have h1b : (rEnd o3.2 == 0) = false := by simpa using h1
    have h1n : (rEnd o3.2 != 0) = true := by simpa using h1
    have hD := E1.out h1
    clear E1 E2 E3 HK h1
    subst hD
    go_wp2_with fail
    have hQ := hQ8.set (.int .i64 0) (.int .i64 0) (.slice none 0 0)
    have hT := Fb.tset W8 w.heap.size (.int .i64 0) (.int .i64 0) (.slice none 0 0)
    have q0 := hQ.c0
    have q1 := hQ.c1
    have q2 := hQ.c2
    refine bodyPost_ret (v := .tuple #[fwv noFw (.slice none 0 0), .int .i64 (rEnd o3.2)]) ?_ rfl ⟨_, rfl, IntsAt.none _ _ _, tch_new hw8 hT (Nat.le_refl _) (Nat.le_refl _)⟩
    simp [results, Try.results15, go_sem, fwv, noFw, q0, q1, q2]
end Go.Proofs.Ytbbfbeacgnimpaa
