/-
  The reference's walk of what returns the data of a complete image.
-/
import Derived.Test.YtbbfbeacgnimpaaFirS
open Go Go.RowKit Go.Proofs
namespace Go.Proofs.Ytbbfbeacgnimpaa
namespace Hub
theorem miss_pos {n : Nat} {H : List Bool} (hH : H.length = n) : 0 < (missN n H n).length ↔ false ∈ H := by
  constructor
  · intro h
    obtain ⟨x, hx⟩ := List.exists_mem_of_length_pos h
    obtain ⟨i, h1, _, h2⟩ := (missN_mem n H n x).1 hx
    have hi : i < H.length := by omega
    have hg : H.getD i false = H[i] := by rw [List.getD_eq_getElem?_getD, List.getElem?_eq_getElem hi]; rfl
    have : H[i] = false := by
      cases e : H[i] with
      | false => rfl
      | true => exact absurd ⟨hH, by rw [hg, e]⟩ h2
    rw [← this]; exact List.getElem_mem hi
  · intro h
    obtain ⟨i, hi, e⟩ := List.getElem_of_mem h
    have hg : H.getD i false = H[i] := by rw [List.getD_eq_getElem?_getD, List.getElem?_eq_getElem hi]; rfl
    exact List.length_pos_of_mem ((missN_mem n H n (i : Int)).2 ⟨i, by omega, rfl, fun hc => by rw [hg, e] at hc; simp at hc⟩)
def zD (D : List ByteArray) (k : Nat) : ByteArray := mk (flat (D.take k))
theorem zD_succ (D : List ByteArray) (k : Nat) (h : k < D.length) : zD D (k + 1) = zD D k ++ D[k] := by
  apply bl_inj
  rw [zD, bl_mk, flat_take D k h, bl_append, zD, bl_mk]
theorem zD_all (D : List ByteArray) (n : Nat) (h : D.length = n) : zD D n = mk (flat D) := by rw [zD, List.take_of_length_le (by omega)]
end Hub
open Hub

set_option maxHeartbeats 1000000 in
theorem xWhole_any (f : Fw) (v vh vb : Value) (lo N : Nat) (h : List Bool) (b : List ByteArray) (w : World) (hv : IntsAt lo N w v f.sums) (hh : BoolsAt lo N w vh h) (hb : StrsAt lo N w vb b) (hN : N ≤ w.heap.size)
    (hl : f.sums.length ≤ 1099511627776) (hbs : ∀ x ∈ b, x.size ≤ 1099511627776) :
    Calls Try.prog 33 #[fwv f v, vh, vb] w fun e w' => e = .returned (.tuple #[.string (mk (wholeF f h b).1), .int .i64 (wholeF f h b).2]) ∧ Below w.heap.size w w' := by
  have HK := Lib.hid (fun w' (k : Below w.heap.size w w') => xChk_any f v lo N w' (hv.below k hN) (Nat.le_trans hN k.size) hl)
  have HS := Lib.hid (fun w' (k : Below w.heap.size w w') hn => lists_any f v vh vb lo N h b w' (hv.below k hN) (hh.below k hN) (hb.below k hN) (Nat.le_trans hN k.size) hn hl)
  have HM := Lib.hid (fun w' u H (k : Below w.heap.size w w') (hu : BoolsAt 0 w'.heap.size w' u H) => xMiss_any f v u 0 w'.heap.size H w' ((hv.below k hN).wide (Nat.zero_le _) (Nat.le_trans hN k.size)) hu (Nat.le_refl _) hl)
  have HV := Lib.hid (fun w' i x (k : Below w.heap.size w w') (hx : x.size ≤ 1099511627776) => xVer_any f v lo N i x w' (hv.below k hN) (Nat.le_trans hN k.size) hl hx)
  obtain ⟨ah, caph, rfl, -⟩ := hh
  obtain ⟨ab, capb, rfl, -⟩ := hb
  unfold fwv at *
  by_cases hz : chkF f = 0
  · have hzb : (chkF f != 0) = false := by simpa using hz
    obtain ⟨_, hn1, hn2, _⟩ := chkF_zero hz
    have hlH := haveL_length f.sums.length h b
    have hlD := dataL_length f.sums.length h b
    have hDs : ∀ x ∈ dataL f.sums.length h b, x.size ≤ 1099511627776 := by
      intro x hx
      rw [dataL] at hx
      split at hx
      · exact hbs x hx
      · obtain ⟨_, rfl⟩ := List.mem_replicate.1 hx; exact Nat.zero_le _
    have E2 := Lib.hid (fun e2 => wholeF_e2 (h := h) (b := b) (show ¬ chkF f ≠ 0 by simp [hz]) e2)
    have E3 := Lib.hid (fun e2 => wholeF_e3 (h := h) (b := b) (show ¬ chkF f ≠ 0 by simp [hz]) e2)
    have HV2 := Lib.hid (fun w' i x k hx => by have := HV.out w' i x k hx; rw [verF_zero hz] at this; exact this)
    have hmf : missF f (haveL f.sums.length h b) = missN f.sums.length (haveL f.sums.length h b) f.sums.length := missF_zero hz
    have hmp := miss_pos hlH
    generalize wholeF f h b = R at *
    generalize haveL f.sums.length h b = H at *
    generalize dataL f.sums.length h b = D at *
    have HM2 := Lib.hid (fun w' u k hu => by have := HM.out w' u H k hu; rw [hmf] at this; exact this)
    have HDs := Lib.hid hDs
    have HStep := Lib.hid (firstBad_step f.sums D)
    have HZ := Lib.hid (zD_succ D)
    obtain ⟨n, hn⟩ : ∃ n, f.sums.length = n := ⟨_, rfl⟩
    rw [hn] at HS hlH hlD hl hn1 hn2 HM2 hmp
    have HZA := Lib.hid (zD_all D n hlD)
    clear hz hv hbs hDs HM HV hmf
    go_enter Try.func33, Try.ntmps33
    go_wp2_with fail
    refine (HK.out _ (below_box w _)).mono ?_
    rintro e w1 ⟨rfl, hb1⟩
    obtain ⟨c0, c1, c2, hF1, hb2, hs⟩ := box3 hb1
    clear hb1
    go_wp2_with fail
    refine (HS.out _ hb2 (by omega)).mono ?_
    rintro e w2 ⟨g1, k1, g2, k2, rfl, hT1, hT2, hne, hb3⟩
    have hF2 : Fb w.heap.size (.int .i64 f.ven) (.int .i64 f.ver) v w2 := Fb.below hF1 hb3 hs
    have hw2 := hb2.trans (hb3.mono hb2.size)
    have hB2 := hT1.bools.wide (Nat.zero_le _) (Nat.le_refl _)
    have hS2 := hT2.strs
    have HMx := Lib.hid (HM2.out w2 _ hw2 hB2)
    clear c0 c1 c2 hF1 hb3 hT1 hT2 hB2
    have c0 := hF2.c0
    have c1 := hF2.c1
    have c2 := hF2.c2
    by_cases hm : false ∈ H
    · have hR := E2.out hm
      have hp := hmp.2 hm
      subst hR
      generalize missN n H n = M at *
      clear hm E2 E3 hmp
      go_wp2_with fail
      refine HMx.out.mono ?_
      rintro e w3 ⟨u, rfl, hu, hb3⟩
      obtain ⟨au, cu, rfl, -⟩ := hu.ints
      have hpi : (0 : Int) < (M.length : Int) := by omega
      clear hu hp
      generalize M.length = ml at *
      go_wp2_with fail
      go_ret2
      exact ⟨rfl, bt hw2 hb3⟩
    · have hR := E3.out hm
      have hp : ¬ 0 < (missN n H n).length := fun x => hm (hmp.1 x)
      have HR := Lib.hid hR
      generalize missN n H n = M at *
      clear hm E2 E3 hmp hR
      go_wp2_with fail
      refine HMx.out.mono ?_
      rintro e w3 ⟨u, rfl, hu, hb3⟩
      obtain ⟨au, cu, rfl, -⟩ := hu.ints
      have hM0 : M.length = 0 := by omega
      rw [hM0]
      have hF3 := hF2.below hb3 hF2.lt
      have hS3 := hS2.below hb3 (Nat.le_refl _)
      have hw3 := bt hw2 hb3
      have hs3 := hb3.size
      clear hu hp hM0 c0 c1 c2 hF2 hS2 hb3
      have hl3 := hF3.lt
      go_wp2_with fail
      go_loopw [10, 11] (fun z i wr => ∃ k : Nat, k ≤ n ∧ i = .int .i64 k ∧ z = .string (zD D k) ∧ (zD D k).size ≤ 64 * k ∧ firstBad f.sums 0 D = firstBad f.sums k (D.drop k) ∧ Below w3.heap.size w3 wr) (fun _ i _ => n - (intOf i).toNat)
      case atStart => exact ⟨0, Nat.zero_le _, rfl, rfl, Nat.le_refl _, rfl, Below.refl _ _⟩
      case round =>
        obtain ⟨k, hk, rfl, rfl, hzk, hfb, hb⟩ := hrel
        have hFr := hF3.below hb hF3.lt
        have hSr := hS3.below hb hs3
        have hwr := hw3.trans (hb.mono hw3.size)
        by_cases hlt : k < n
        · have hkD : k < D.length := by omega
          obtain ⟨bk, off, hae, hbk, hcl⟩ := hSr.get k hkD
          simp only [Option.some.injEq, Addr.mk.injEq, and_true] at hae
          obtain ⟨rfl, rfl⟩ := hae
          have hst := HStep.out k hkD
          rw [← hfb] at hst
          have hzs := HZ.out k hkD
          have HZk := Lib.hid hzs
          have hx := HDs.out D[k] (List.getElem_mem hkD)
          have HSt := Lib.hid hst
          have hki : (k : Int) < (n : Int) := by omega
          rw [Nat.zero_add] at hcl
          have hg2 : g2 < wr.heap.size := Nat.lt_of_lt_of_le hbk (Nat.le_trans hs3 hb.size)
          clear hst hfb hSr hzs
          generalize D[k] = x at *
          have HFq := Lib.hid (fun w' (q : Below wr.heap.size wr w') => (⟨(hFr.below q hFr.lt).c0, (hFr.below q hFr.lt).c1, (hFr.below q hFr.lt).c2, by rw [q.cell (p := ⟨g2, k, none⟩) hg2]; exact hcl⟩ : _ ∧ _ ∧ _ ∧ w'.cell? ⟨g2, k, none⟩ = some (.string x)))
          have HVx := Lib.hid (fun w' (q : Below wr.heap.size wr w') => HV2.out w' k x (hwr.trans (q.mono hwr.size)) hx)
          by_cases hvx : verB f.sums k x = 0
          · have hfb2 : firstBad f.sums 0 D = firstBad f.sums (k + 1) (D.drop (k + 1)) := by rw [HSt.out, if_neg (by simp [hvx])]
            have hxs := verB_small hvx
            have hvb : (verB f.sums k x != 0) = false := by simpa using hvx
            have Hb := Lib.hid hb
            have HFB := Lib.hid hfb2
            clear HSt hvx hcl hFr hwr hb hfb2
            generalize verB f.sums k x = E at *
            have c3 := (HFq.out wr (Below.refl _ _)).2.2.2
            go_wp2_with fail
            refine wp_region_class (fun w' => Below wr.heap.size wr w') (by kernel_rfl) (by kernel_rfl) (Below.refl _ _).drew ?_
            refine BigFrame.wpQuiet_want rfl (fun K hK => ?_)
            refine quiet_val (.agg #[.int .i64 f.ven, .int .i64 f.ver, v]) (fun w' hC' => by obtain ⟨c0, c1, c2, c3⟩ := HFq.out _ hC'; go_simp) ?_
            go_simp
            refine hK _ ?_
            clear hK K
            refine BigFrame.wpQuiet_want rfl (fun K hK => ?_)
            refine quiet_val (.int .i64 k) (fun w' hC' => by go_simp) ?_
            go_simp
            refine hK _ ?_
            clear hK K
            refine BigFrame.wpQuiet_want rfl (fun K hK => ?_)
            refine quiet_val (.slice (some ⟨g2, 0, none⟩) n k2) (fun w' hC' => by go_simp) ?_
            go_simp
            refine hK _ ?_
            clear hK K
            refine BigFrame.wpQuiet_want rfl (fun K hK => ?_)
            refine quiet_val (.int .i64 k) (fun w' hC' => by go_simp) ?_
            go_simp
            refine hK _ ?_
            clear hK K
            refine BigFrame.wpQuiet_want rfl (fun K hK => ?_)
            refine quiet_val (.pointer (some ⟨g2, k, none⟩)) (fun w' hC' => by go_simp) ?_
            go_simp
            refine hK _ ?_
            clear hK K
            refine BigFrame.wpQuiet_want rfl (fun K hK => ?_)
            refine quiet_val (.string x) (fun w' hC' => by obtain ⟨c0, c1, c2, c3⟩ := HFq.out _ hC'; go_simp) ?_
            go_simp
            refine hK _ ?_
            clear hK K
            refine BigFrame.wpQuiet_want rfl (fun K hK => ?_)
            refine quiet_enter (.int .i64 E) 27 #[.agg #[.int .i64 f.ven, .int .i64 f.ver, v], .int .i64 k, .string x] (fun w' hC' => by go_simp) (fun w' hC' => (HVx.out w' hC').mono fun e w'' ⟨he, hb⟩ => ⟨he, bt hC' hb⟩) ?_
            go_simp
            refine hK _ ?_
            clear hK K
            refine BigFrame.wpQuiet_want rfl (fun K hK => ?_)
            refine quiet_val (.bool false) (fun w' hC' => by go_simp) ?_
            go_simp
            refine hK _ ?_
            clear hK K
            refine wpQuiet_nil ?_
            intro w4 hC'
            obtain ⟨c0, c1, c2, c3⟩ := HFq.out _ hC'
            go_wp2_with fail
            go_roundw
            case rel =>
              exact ⟨k + 1, by omega, by go_num, by rw [HZk.out], by rw [HZk.out, ByteArray.size_append]; omega, HFB.out, bt Hb.out hC'⟩
            case measure => simp [intOf]; omega
          · have hvb : (verB f.sums k x != 0) = true := by simpa using hvx
            have hR : R = ([], verB f.sums k x) := by rw [HR.out, HSt.out, if_pos hvx, if_pos hvx]
            subst hR
            have Hw := Lib.hid hwr
            clear HSt hvx HR hcl hFr hwr hb
            go_wp2_with fail
            refine wp_region_class (fun w' => Below wr.heap.size wr w') (by kernel_rfl) (by kernel_rfl) (Below.refl _ _).drew ?_
            refine BigFrame.wpQuiet_want rfl (fun K hK => ?_)
            refine quiet_val (.agg #[.int .i64 f.ven, .int .i64 f.ver, v]) (fun w' hC' => by obtain ⟨c0, c1, c2, c3⟩ := HFq.out _ hC'; go_simp) ?_
            go_simp
            refine hK _ ?_
            clear hK K
            refine BigFrame.wpQuiet_want rfl (fun K hK => ?_)
            refine quiet_val (.int .i64 k) (fun w' hC' => by go_simp) ?_
            go_simp
            refine hK _ ?_
            clear hK K
            refine BigFrame.wpQuiet_want rfl (fun K hK => ?_)
            refine quiet_val (.slice (some ⟨g2, 0, none⟩) n k2) (fun w' hC' => by go_simp) ?_
            go_simp
            refine hK _ ?_
            clear hK K
            refine BigFrame.wpQuiet_want rfl (fun K hK => ?_)
            refine quiet_val (.int .i64 k) (fun w' hC' => by go_simp) ?_
            go_simp
            refine hK _ ?_
            clear hK K
            refine BigFrame.wpQuiet_want rfl (fun K hK => ?_)
            refine quiet_val (.pointer (some ⟨g2, k, none⟩)) (fun w' hC' => by go_simp) ?_
            go_simp
            refine hK _ ?_
            clear hK K
            refine BigFrame.wpQuiet_want rfl (fun K hK => ?_)
            refine quiet_val (.string x) (fun w' hC' => by obtain ⟨c0, c1, c2, c3⟩ := HFq.out _ hC'; go_simp) ?_
            go_simp
            refine hK _ ?_
            clear hK K
            refine BigFrame.wpQuiet_want rfl (fun K hK => ?_)
            refine quiet_enter (.int .i64 (verB f.sums k x)) 27 #[.agg #[.int .i64 f.ven, .int .i64 f.ver, v], .int .i64 k, .string x] (fun w' hC' => by go_simp) (fun w' hC' => (HVx.out w' hC').mono fun e w'' ⟨he, hb⟩ => ⟨he, bt hC' hb⟩) ?_
            go_simp
            refine hK _ ?_
            clear hK K
            refine BigFrame.wpQuiet_want rfl (fun K hK => ?_)
            refine quiet_val (.bool true) (fun w' hC' => by go_simp) ?_
            go_simp
            refine hK _ ?_
            clear hK K
            refine wpQuiet_nil ?_
            intro w4 hC'
            have HFq4 := Lib.hid (fun w' (q : Below w4.heap.size w4 w') => HFq.out w' (bt hC' q))
            have HVx4 := Lib.hid (fun w' (q : Below w4.heap.size w4 w') => HVx.out w' (bt hC' q))
            clear HFq HVx
            have HFq := HFq4
            have HVx := HVx4
            go_wp2_with fail
            refine wp_region_class (fun w' => Below w4.heap.size w4 w') (by kernel_rfl) (by kernel_rfl) (Below.refl _ _).drew ?_
            refine BigFrame.wpQuiet_want rfl (fun K hK => ?_)
            refine quiet_val (.agg #[.int .i64 f.ven, .int .i64 f.ver, v]) (fun w' hC' => by obtain ⟨c0, c1, c2, c3⟩ := HFq.out _ hC'; go_simp) ?_
            go_simp
            refine hK _ ?_
            clear hK K
            refine BigFrame.wpQuiet_want rfl (fun K hK => ?_)
            refine quiet_val (.int .i64 k) (fun w' hC' => by go_simp) ?_
            go_simp
            refine hK _ ?_
            clear hK K
            refine BigFrame.wpQuiet_want rfl (fun K hK => ?_)
            refine quiet_val (.slice (some ⟨g2, 0, none⟩) n k2) (fun w' hC' => by go_simp) ?_
            go_simp
            refine hK _ ?_
            clear hK K
            refine BigFrame.wpQuiet_want rfl (fun K hK => ?_)
            refine quiet_val (.int .i64 k) (fun w' hC' => by go_simp) ?_
            go_simp
            refine hK _ ?_
            clear hK K
            refine BigFrame.wpQuiet_want rfl (fun K hK => ?_)
            refine quiet_val (.pointer (some ⟨g2, k, none⟩)) (fun w' hC' => by go_simp) ?_
            go_simp
            refine hK _ ?_
            clear hK K
            refine BigFrame.wpQuiet_want rfl (fun K hK => ?_)
            refine quiet_val (.string x) (fun w' hC' => by obtain ⟨c0, c1, c2, c3⟩ := HFq.out _ hC'; go_simp) ?_
            go_simp
            refine hK _ ?_
            clear hK K
            refine BigFrame.wpQuiet_want rfl (fun K hK => ?_)
            refine quiet_enter (.int .i64 (verB f.sums k x)) 27 #[.agg #[.int .i64 f.ven, .int .i64 f.ver, v], .int .i64 k, .string x] (fun w' hC' => by go_simp) (fun w' hC' => (HVx.out w' hC').mono fun e w'' ⟨he, hb⟩ => ⟨he, bt hC' hb⟩) ?_
            go_simp
            refine hK _ ?_
            clear hK K
            refine BigFrame.wpQuiet_want rfl (fun K hK => ?_)
            refine quiet_val (.string ⟨#[]⟩) (fun w' hC' => by go_simp) ?_
            go_simp
            refine hK _ ?_
            clear hK K
            refine BigFrame.wpQuiet_want rfl (fun K hK => ?_)
            refine quiet_val (.int .i64 (verB f.sums k x)) (fun w' hC' => by go_simp) ?_
            go_simp
            refine hK _ ?_
            clear hK K
            refine wpQuiet_nil ?_
            intro w5 hC5
            go_wp2_with fail
            go_ret2
            exact ⟨rfl, bt Hw.out (bt hC' hC5)⟩
        · obtain rfl : k = n := by omega
          have hR : R = (flat D, 0) := by rw [HR.out, hfb, List.drop_eq_nil_of_le (by omega), firstBad, if_neg (by simp)]; rfl
          subst hR
          clear HR hfb
          go_wp2_with fail
          go_ret2
          exact ⟨by rw [HZA.out]; rfl, hwr⟩
  · have hzb : (chkF f != 0) = true := by simpa using hz
    rw [wholeF_e1 hz]
    clear hz hv HS HV HM
    go_enter Try.func33, Try.ntmps33
    go_wp2_with fail
    refine (HK.out _ (below_box w _)).mono ?_
    rintro e w1 ⟨rfl, hb1⟩
    obtain ⟨c0, c1, c2, _, hb2, hs⟩ := box3 hb1
    clear hb1
    go_wp2_with fail
    refine (HK.out _ hb2).mono ?_
    rintro e w2 ⟨rfl, hb3⟩
    go_wp2_with fail
    go_ret2
    exact ⟨rfl, bt hb2 hb3⟩
end Go.Proofs.Ytbbfbeacgnimpaa
