/-
  The walks of what checks, writes and reads a description, the reference's; and of its identity.
-/
import Derived.Test.YtbbfbeacgnimpaaFirD
open Go Go.RowKit Go.Proofs
namespace Go.Proofs.Ytbbfbeacgnimpaa
namespace Hub
theorem namedF_no {a b : Int} (h : namedF a b = false) : a < 0 ∨ (0 ≤ a ∧ 255 < a) ∨ (0 ≤ a ∧ a ≤ 255 ∧ b < 1) ∨ (0 ≤ a ∧ a ≤ 255 ∧ 1 ≤ b ∧ 65535 < b) := by
  simp [namedF] at h
  omega
end Hub
open Hub
set_option maxHeartbeats 1000000 in
theorem xChk_any (f : Fw) (v : Value) (lo N : Nat) (w : World) (hv : IntsAt lo N w v f.sums) (hN : N ≤ w.heap.size) (hl : f.sums.length ≤ 1099511627776) :
    Calls Try.prog 16 #[fwv f v] w fun e w' => e = .returned (.int .i64 (chkF f)) ∧ Below w.heap.size w w' := by
  obtain ⟨a, cap, rfl, hc⟩ := hv
  have HC := Lib.hid hc
  unfold fwv
  by_cases h1 : namedF f.ven f.ver = false
  · rw [chkF_e1 h1]
    have hno := namedF_no h1
    clear h1 hc HC
    generalize f.sums.length = L at *
    rcases hno with g1 | ⟨g1, g2⟩ | ⟨g1, g2, g3⟩ | ⟨g1, g2, g3, g4⟩
    all_goals
      go_enter Try.func16, Try.ntmps16
      go_wp2_with fail
      go_ret
      exact ⟨rfl, (Below.refl _ _).alloc (Nat.le_refl _) _⟩
  · have h1t : namedF f.ven f.ver = true := by simpa using h1
    obtain ⟨n1, n2, n3, n4⟩ := namedF_bounds h1t
    by_cases h2 : f.sums.length < 1
    · rw [chkF_e2 h1 (.inl h2)]
      clear h1 h1t hc HC
      generalize f.sums.length = L at *
      have h2i : (L : Int) < 1 := by omega
      go_enter Try.func16, Try.ntmps16
      go_wp2_with fail
      go_ret
      exact ⟨rfl, (Below.refl _ _).alloc (Nat.le_refl _) _⟩
    · by_cases h3 : 64 < f.sums.length
      · rw [chkF_e2 h1 (.inr h3)]
        clear h1 h1t hc HC
        generalize f.sums.length = L at *
        have h2i : ¬ (L : Int) < 1 := by omega
        have h3i : (64 : Int) < (L : Int) := by omega
        go_enter Try.func16, Try.ntmps16
        go_wp2_with fail
        go_ret
        exact ⟨rfl, (Below.refl _ _).alloc (Nat.le_refl _) _⟩
      · rw [chkF_e3 h1 (by omega)]
        obtain ⟨b, off, rfl, _, hbN, hcell⟩ := hc (by intro h; rw [h] at h2; simp at h2)
        have hbw : b < w.heap.size := by omega
        have HX := Lib.hid hcell
        have HSt := Lib.hid (sumsOk_step f.sums)
        clear hcell hc HC h1 h1t
        generalize hR : (if sumsOk f.sums = false then (2 : Int) else 0) = R
        have HR := Lib.hid hR
        clear hR
        obtain ⟨L, hL⟩ : ∃ L, f.sums.length = L := ⟨_, rfl⟩
        rw [hL]
        rw [hL] at h2 h3
        have HL := Lib.hid hL
        clear hL hl
        have h2i : ¬ (L : Int) < 1 := by omega
        have h3i : ¬ (64 : Int) < (L : Int) := by omega
        go_enter Try.func16, Try.ntmps16
        go_wp2_with fail
        go_loop [3] (fun i => ∃ k : Nat, k ≤ L ∧ i = .int .i64 k ∧ sumsOk f.sums = sumsOk (f.sums.drop k)) (fun i => L - (intOf i).toNat)
        case atStart => exact ⟨0, Nat.zero_le _, rfl, rfl⟩
        case round =>
          obtain ⟨k, hk, rfl, hs⟩ := hrel
          by_cases hlt : k < L
          · have hkx : k < f.sums.length := by rw [HL.out]; exact hlt
            have hck := HX.out k hkx
            have hst := HSt.out k hkx
            rw [← hs] at hst
            have HT := Lib.hid hst
            clear hst hs
            generalize f.sums[k] = x at *
            by_cases hx0 : x < 0
            · have hr : R = 2 := by rw [← HR.out, HT.out, decide_eq_false (by omega)]; rfl
              subst hr
              go_wp2
              go_ret
              exact ⟨rfl, (Below.refl _ _).alloc (Nat.le_refl _) _⟩
            · by_cases hx1 : 4294967295 < x
              · have hr : R = 2 := by rw [← HR.out, HT.out, decide_eq_false (show ¬ x ≤ 4294967295 by omega), Bool.and_false]; rfl
                subst hr
                go_wp2
                go_ret
                exact ⟨rfl, (Below.refl _ _).alloc (Nat.le_refl _) _⟩
              · have hs2 : sumsOk f.sums = sumsOk (f.sums.drop (k + 1)) := by rw [HT.out, decide_eq_true (by omega), decide_eq_true (by omega)]; rfl
                go_wp2
                exact ⟨⟨k + 1, by omega, by go_num, hs2⟩, by simp [intOf]; omega⟩
          · obtain rfl : k = L := by omega
            have hr : R = 0 := by rw [← HR.out, hs, List.drop_eq_nil_of_le (by rw [HL.out]; omega)]; rfl
            subst hr
            go_wp2
            go_ret
            exact ⟨rfl, (Below.refl _ _).alloc (Nat.le_refl _) _⟩

set_option maxHeartbeats 1000000 in
theorem xEnc_any (f : Fw) (v : Value) (lo N : Nat) (w : World) (hv : IntsAt lo N w v f.sums) (hN : N ≤ w.heap.size) (hl : f.sums.length ≤ 8796093022208) (hbd : IntB f.sums)
    (h0 : -9223372036854775808 ≤ f.ven) (h1 : f.ven ≤ 9223372036854775807) (h2 : -9223372036854775808 ≤ f.ver) (h3 : f.ver ≤ 9223372036854775807) :
    Calls Try.prog 17 #[fwv f v] w fun e w' => e = .returned (.string (mk (encFw f))) ∧ Below w.heap.size w w' := by
  have HA := Lib.hid (fun w => refInt_any f.ven w h0 h1)
  have HB := Lib.hid (fun w => refInt_any f.ver w h2 h3)
  have HC := Lib.hid (fun w h hN => refInts_any v f.sums lo N w h hN hl hbd)
  have HV := Lib.hid hv
  have he : mk (enc f.ven) ++ mk (enc f.ver) ++ mk (encL f.sums) = mk (encFw f) := by apply bl_inj; rw [bl_append, bl_append, bl_mk, bl_mk, bl_mk, bl_mk, encFw, List.append_assoc]
  have HE := Lib.hid he
  have hz1 : (mk (enc f.ven)).size ≤ 10 := enc_length _ h0 h1
  have hz2 : (mk (enc f.ver)).size ≤ 10 := enc_length _ h2 h3
  have hz3 : (mk (encL f.sums)).size ≤ 87960930222100 := by
    show (encL f.sums).length ≤ _
    have := enc_length (f.sums.length : Int) (by omega) (by omega)
    have := encs_length f.sums hbd
    rw [encL, List.length_append]; omega
  unfold fwv at *
  clear he hv
  generalize mk (enc f.ven) = A at *
  generalize mk (enc f.ver) = B at *
  generalize mk (encL f.sums) = C at *
  have hab : A.size + B.size ≤ 9223372036854775807 := by omega
  have habc : A.size + B.size + C.size ≤ 9223372036854775807 := by omega
  go_enter Try.func17, Try.ntmps17
  go_wp2_with fail
  have HBx := Lib.hid (fun w' (h : Below (w.alloc (.cells #[.int .i64 f.ven, .int .i64 f.ver, v] 24)).heap.size (w.alloc (.cells #[.int .i64 f.ven, .int .i64 f.ver, v] 24)) w') => (⟨(box3 h).1, (box3 h).2.1, (box3 h).2.2.1⟩ : _ ∧ _ ∧ _))
  have HVw := Lib.hid (fun w' (h : Below (w.alloc (.cells #[.int .i64 f.ven, .int .i64 f.ver, v] 24)).heap.size (w.alloc (.cells #[.int .i64 f.ven, .int .i64 f.ver, v] 24)) w') => HV.out.below (box3 h).2.2.2.2.1 hN)
  have HSz := Lib.hid (fun w' (h : Below (w.alloc (.cells #[.int .i64 f.ven, .int .i64 f.ver, v] 24)).heap.size (w.alloc (.cells #[.int .i64 f.ven, .int .i64 f.ver, v] 24)) w') => Nat.le_trans hN (Nat.le_of_lt (box3 h).2.2.2.2.2))
  have HFin := Lib.hid (below_box w (.cells #[.int .i64 f.ven, .int .i64 f.ver, v] 24))
  have HWs := Lib.hid (show w.heap.size ≤ (w.alloc (.cells #[.int .i64 f.ven, .int .i64 f.ver, v] 24)).heap.size by simp)
  generalize hW : w.alloc (.cells #[.int .i64 f.ven, .int .i64 f.ver, v] 24) = W at *
  refine wp_region_class (fun w' => Below W.heap.size W w') (by kernel_rfl) (by kernel_rfl) (Below.refl _ _).drew ?_
  refine BigFrame.wpQuiet_want rfl (fun K hK => ?_)
  refine quiet_val (.pointer (some ⟨w.heap.size, 0, none⟩)) (fun w' hC' => by go_simp) ?_
  go_simp
  refine hK _ ?_
  clear hK K
  refine BigFrame.wpQuiet_want rfl (fun K hK => ?_)
  refine quiet_val (.int .i64 f.ven) (fun w' hC' => by have c0 := (HBx.out _ hC').1; go_simp) ?_
  go_simp
  refine hK _ ?_
  clear hK K
  refine BigFrame.wpQuiet_want rfl (fun K hK => ?_)
  refine quiet_enter (.string A) 47 #[.int .i64 f.ven] (fun w' hC' => by go_simp) (fun w' hC' => (HA.out w').mono fun e w'' ⟨he, hb⟩ => ⟨he, bt hC' hb⟩) ?_
  go_simp
  refine hK _ ?_
  clear hK K
  refine BigFrame.wpQuiet_want rfl (fun K hK => ?_)
  refine quiet_val (.pointer (some ⟨w.heap.size, 1, none⟩)) (fun w' hC' => by go_simp) ?_
  go_simp
  refine hK _ ?_
  clear hK K
  refine BigFrame.wpQuiet_want rfl (fun K hK => ?_)
  refine quiet_val (.int .i64 f.ver) (fun w' hC' => by have c1 := (HBx.out _ hC').2.1; go_simp) ?_
  go_simp
  refine hK _ ?_
  clear hK K
  refine BigFrame.wpQuiet_want rfl (fun K hK => ?_)
  refine quiet_enter (.string B) 47 #[.int .i64 f.ver] (fun w' hC' => by go_simp) (fun w' hC' => (HB.out w').mono fun e w'' ⟨he, hb⟩ => ⟨he, bt hC' hb⟩) ?_
  go_simp
  refine hK _ ?_
  clear hK K
  refine BigFrame.wpQuiet_want rfl (fun K hK => ?_)
  refine quiet_val (.string (A ++ B)) (fun w' hC' => by go_simp) ?_
  go_simp
  refine hK _ ?_
  clear hK K
  refine BigFrame.wpQuiet_want rfl (fun K hK => ?_)
  refine quiet_val (.pointer (some ⟨w.heap.size, 2, none⟩)) (fun w' hC' => by go_simp) ?_
  go_simp
  refine hK _ ?_
  clear hK K
  refine BigFrame.wpQuiet_want rfl (fun K hK => ?_)
  refine quiet_val (v) (fun w' hC' => by have c2 := (HBx.out _ hC').2.2; go_simp) ?_
  go_simp
  refine hK _ ?_
  clear hK K
  refine BigFrame.wpQuiet_want rfl (fun K hK => ?_)
  refine quiet_enter (.string C) 48 #[v] (fun w' hC' => by go_simp) (fun w' hC' => (HC.out w' (HVw.out _ hC') (HSz.out _ hC')).mono fun e w'' ⟨he, hb⟩ => ⟨he, bt hC' hb⟩) ?_
  go_simp
  refine hK _ ?_
  clear hK K
  refine BigFrame.wpQuiet_want rfl (fun K hK => ?_)
  refine quiet_val (.string (A ++ B ++ C)) (fun w' hC' => by go_simp) ?_
  go_simp
  refine hK _ ?_
  clear hK K
  refine BigFrame.wpQuiet_want rfl (fun K hK => ?_)
  refine quiet_val (.string (A ++ B ++ C)) (fun w' hC' => by go_simp) ?_
  go_simp
  refine hK _ ?_
  clear hK K
  refine wpQuiet_nil ?_
  intro w' hC'
  go_wp2_with fail
  rw [HE.out]
  go_ret
  exact ⟨rfl, HFin.out.trans (hC'.mono HWs.out)⟩

theorem xSum_any (s : ByteArray) (w : World) (hs : s.size ≤ 1099511627776) : Calls Try.prog 50 #[.string s] w fun e w' => e = .returned (.int .i64 (sumB s)) ∧ w = w' := by
  have HC := Lib.hid (fun w => refCrc32_any s w hs)
  have hss : ((crc32 (bl s)).toNat : Int) = sumB s := rfl
  rw [hss] at HC
  generalize sumB s = S at *
  go_enter Try.func50, Try.ntmps50
  go_wp2_with (refine (HC.out _).mono ?_; rintro e w2 ⟨rfl, rfl⟩)
  go_ret
  exact ⟨rfl, rfl⟩

set_option maxHeartbeats 1000000 in
theorem wId_any (f : Fw) (v : Value) (lo N : Nat) (w : World) (hv : IntsAt lo N w v f.sums) (hN : N ≤ w.heap.size) (hl : f.sums.length ≤ 1000000) (hbd : IntB f.sums)
    (h0 : -9223372036854775808 ≤ f.ven) (h1 : f.ven ≤ 9223372036854775807) (h2 : -9223372036854775808 ≤ f.ver) (h3 : f.ver ≤ 9223372036854775807) :
    Calls Try.prog 18 #[fwv f v] w fun e w' => e = .returned (.int .i64 (sumB (mk (encFw f)))) ∧ Below w.heap.size w w' := by
  have hel : (mk (encFw f)).size ≤ 20000000 := by
    show (encFw f).length ≤ 20000000
    have := enc_length f.ven h0 h1
    have := enc_length f.ver h2 h3
    have := enc_length (f.sums.length : Int) (by omega) (by omega)
    have := encs_length f.sums hbd
    rw [encFw, encL, List.length_append, List.length_append, List.length_append]; omega
  have hW := below_box w (.cells #[.int .i64 f.ven, .int .i64 f.ver, v] 24)
  have HE := Lib.hid (encFw_any f v lo N (w.alloc (.cells #[.int .i64 f.ven, .int .i64 f.ver, v] 24)) (hv.below hW hN) (Nat.le_trans hN hW.size) (by omega) hbd h0 h1 h2 h3)
  have HC := Lib.hid (fun w => crc32_any (mk (encFw f)) w (by omega))
  unfold fwv at *
  have hss : ((crc32 (bl (mk (encFw f)))).toNat : Int) = sumB (mk (encFw f)) := rfl
  rw [hss] at HC
  generalize sumB (mk (encFw f)) = S at *
  generalize mk (encFw f) = E at *
  go_enter Try.func18, Try.ntmps18
  go_wp2_with fail
  refine HE.out.mono ?_
  rintro e w1 ⟨rfl, hb1⟩
  go_wp2_with fail
  refine (HC.out _).mono ?_
  rintro e w2 ⟨rfl, rfl⟩
  go_wp2_with fail
  go_ret
  exact ⟨rfl, bt hW hb1⟩

set_option maxHeartbeats 1000000 in
theorem xId_any (f : Fw) (v : Value) (lo N : Nat) (w : World) (hv : IntsAt lo N w v f.sums) (hN : N ≤ w.heap.size) (hl : f.sums.length ≤ 1000000) (hbd : IntB f.sums)
    (h0 : -9223372036854775808 ≤ f.ven) (h1 : f.ven ≤ 9223372036854775807) (h2 : -9223372036854775808 ≤ f.ver) (h3 : f.ver ≤ 9223372036854775807) :
    Calls Try.prog 19 #[fwv f v] w fun e w' => e = .returned (.int .i64 (sumB (mk (encFw f)))) ∧ Below w.heap.size w w' := by
  have hel : (mk (encFw f)).size ≤ 20000000 := by
    show (encFw f).length ≤ 20000000
    have := enc_length f.ven h0 h1
    have := enc_length f.ver h2 h3
    have := enc_length (f.sums.length : Int) (by omega) (by omega)
    have := encs_length f.sums hbd
    rw [encFw, encL, List.length_append, List.length_append, List.length_append]; omega
  have hW := below_box w (.cells #[.int .i64 f.ven, .int .i64 f.ver, v] 24)
  have HE := Lib.hid (xEnc_any f v lo N (w.alloc (.cells #[.int .i64 f.ven, .int .i64 f.ver, v] 24)) (hv.below hW hN) (Nat.le_trans hN hW.size) (by omega) hbd h0 h1 h2 h3)
  have HC := Lib.hid (fun w => xSum_any (mk (encFw f)) w (by omega))
  unfold fwv at *
  generalize sumB (mk (encFw f)) = S at *
  generalize mk (encFw f) = E at *
  go_enter Try.func19, Try.ntmps19
  go_wp2_with fail
  refine HE.out.mono ?_
  rintro e w1 ⟨rfl, hb1⟩
  go_wp2_with fail
  refine (HC.out _).mono ?_
  rintro e w2 ⟨rfl, rfl⟩
  go_wp2_with fail
  go_ret
  exact ⟨rfl, bt hW hb1⟩
end Go.Proofs.Ytbbfbeacgnimpaa
