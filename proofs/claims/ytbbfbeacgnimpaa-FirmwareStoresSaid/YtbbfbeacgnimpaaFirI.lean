/-
  The walk of what returns the data of a complete image, the program's.
-/
import Derived.Test.YtbbfbeacgnimpaaFirH
open Go Go.RowKit Go.Proofs
namespace Go.Proofs.Ytbbfbeacgnimpaa
namespace Hub
section
variable {f : Fw} {h : List Bool} {b : List ByteArray}
theorem wholeF_e1 (e : chkF f ≠ 0) : wholeF f h b = ([], chkF f) := by rw [wholeF, if_pos e]
theorem wholeF_e2 (e : ¬ chkF f ≠ 0) (e2 : false ∈ haveL f.sums.length h b) : wholeF f h b = ([], 5) := by rw [wholeF, if_neg e, if_pos e2]
theorem wholeF_e3 (e : ¬ chkF f ≠ 0) (e2 : ¬ false ∈ haveL f.sums.length h b) : wholeF f h b = if firstBad f.sums 0 (dataL f.sums.length h b) ≠ 0 then ([], firstBad f.sums 0 (dataL f.sums.length h b)) else ((dataL f.sums.length h b).flatMap bl, 0) := by
  rw [wholeF, if_neg e, if_neg e2]
end
theorem verB_small {l : List Int} {i : Int} {b : ByteArray} (h : verB l i b = 0) : b.size ≤ 64 := by
  rw [verB] at h
  split at h
  · simp at h
  · split at h
    · simp at h
    · omega
theorem flat_small (l : List ByteArray) (h : ∀ x ∈ l, x.size ≤ 64) : (flat l).length ≤ 64 * l.length := by
  induction l with
  | nil => simp [flat]
  | cons a l ih =>
    have h1 := h a (by simp)
    have h2 := ih (fun x hx => h x (by simp [hx]))
    rw [flat, List.flatMap_cons, List.length_append, size_bl, List.length_cons]
    rw [flat] at h2
    omega
theorem StrsAt.get {lo N : Nat} {w : World} {a : Option Addr} {n cap : Nat} {l : List ByteArray} (h : StrsAt lo N w (.slice a n cap) l) (k : Nat) (hk : k < l.length) : ∃ bk off, a = some ⟨bk, off, none⟩ ∧ bk < N ∧ w.cell? ⟨bk, off + k, none⟩ = some (.string l[k]) := by
  obtain ⟨a', cap', e, _, hc⟩ := h
  simp only [Value.slice.injEq] at e
  obtain ⟨rfl, -, -⟩ := e
  obtain ⟨bk, off, rfl, _, hbN, hcell⟩ := hc (by intro e; rw [e] at hk; simp at hk)
  exact ⟨bk, off, rfl, hbN, hcell k hk⟩
end Hub
open Hub

set_option maxHeartbeats 1000000 in
theorem whole_any (f : Fw) (v vh vb : Value) (lo N : Nat) (h : List Bool) (b : List ByteArray) (w : World) (hv : IntsAt lo N w v f.sums) (hh : BoolsAt lo N w vh h) (hb : StrsAt lo N w vb b) (hN : N ≤ w.heap.size)
    (hl : f.sums.length ≤ 1099511627776) (hbs : ∀ x ∈ b, x.size ≤ 1099511627776) :
    Calls Try.prog 32 #[fwv f v, vh, vb] w fun e w' => e = .returned (.tuple #[.string (mk (wholeF f h b).1), .int .i64 (wholeF f h b).2]) ∧ Below w.heap.size w w' := by
  have HK := Lib.hid (fun w' (k : Below w.heap.size w w') => chk_any f v lo N w' (hv.below k hN) (Nat.le_trans hN k.size) hl)
  have HS := Lib.hid (fun w' (k : Below w.heap.size w w') hn => stored_any f v vh vb lo N h b w' (hv.below k hN) (hh.below k hN) (hb.below k hN) (Nat.le_trans hN k.size) hn hl)
  have HV := Lib.hid (fun w' i x (k : Below w.heap.size w w') (hx : x.size ≤ 1099511627776) => verB_any f v lo N i x w' (hv.below k hN) (Nat.le_trans hN k.size) hl hx)
  obtain ⟨ah, caph, rfl, _, _⟩ := hh
  obtain ⟨ab, capb, rfl, _, _⟩ := hb
  unfold fwv at *
  by_cases hz : chkF f = 0
  · have hzb : (chkF f != 0) = false := by simpa using hz
    obtain ⟨_, hn1, _, _⟩ := chkF_zero hz
    have hlH := haveL_length f.sums.length h b
    have hlD := dataL_length f.sums.length h b
    have hDs : ∀ x ∈ dataL f.sums.length h b, x.size ≤ 1099511627776 := by
      intro x hx
      rw [dataL] at hx
      split at hx
      · exact hbs x hx
      · obtain ⟨_, rfl⟩ := List.mem_replicate.1 hx; exact Nat.zero_le _
    have E2 := Lib.hid (fun e2 => wholeF_e2 (h := h) (b := b) (show ¬ chkF f ≠ 0 by simp [hz]) e2)
    have E3 := Lib.hid (fun e2 => wholeF_e3 (h := h) (b := b) (show ¬ chkF f ≠ 0 by simp [hz]) e2)
    generalize wholeF f h b = R at *
    generalize haveL f.sums.length h b = H at *
    generalize dataL f.sums.length h b = D at *
    have HDs := Lib.hid hDs
    have HStep := Lib.hid (firstBad_step f.sums D)
    obtain ⟨n, hn⟩ : ∃ n, f.sums.length = n := ⟨_, rfl⟩
    rw [hn] at HS hlH hlD hl hn1
    clear hz hv hbs hDs
    go_enter Try.func32, Try.ntmps32
    go_wp2_with fail
    refine (HK.out _ (below_box w _)).mono ?_
    rintro e w1 ⟨rfl, hb1⟩
    obtain ⟨c0, c1, c2, hF1, hb2, hs⟩ := box3 hb1
    clear hb1
    go_wp2_with fail
    refine (HS.out _ hb2 (by omega)).mono ?_
    rintro e w2 ⟨g1, g2, rfl, hR1, hR2, hg1, hg2, hne, hb3⟩
    have hF2 : Fb w.heap.size (.int .i64 f.ven) (.int .i64 f.ver) v w2 := Fb.below hF1 hb3 hs
    have hw2 := hb2.trans (hb3.mono hb2.size)
    have hB2 := hR1.bools (n := n) (lo := w.heap.size) hlH (by omega)
    have hS2 := hR2.strs (n := n) (lo := w.heap.size) hlD (by omega)
    have HC := Lib.hid (contains_any _ _ _ H w2 hB2 (by omega))
    clear c0 c1 c2 hF1 hb3 hR1 hR2 hB2
    by_cases hm : false ∈ H
    · have hR := E2.out hm
      rw [decide_eq_true hm] at HC
      subst hR
      clear hm E2 E3
      go_wp2_with (go_at_call 54; refine HC.out.mono ?_; rintro e w3 ⟨rfl, rfl⟩)
      go_ret2
      exact ⟨rfl, hw2⟩
    · have hR := E3.out hm
      rw [decide_eq_false hm] at HC
      have HR := Lib.hid hR
      clear hm E2 E3 hR
      go_wp2_with (go_at_call 54; refine HC.out.mono ?_; rintro e w3 ⟨rfl, rfl⟩)
      go_loopw [30] (fun i wr => ∃ k : Nat, k ≤ n ∧ i = .int .i64 k ∧ firstBad f.sums 0 D = firstBad f.sums k (D.drop k) ∧ (∀ j (hj : j < D.length), j < k → D[j].size ≤ 64) ∧ Below w2.heap.size w2 wr) (fun i _ => n - (intOf i).toNat)
      case atStart => exact ⟨0, Nat.zero_le _, rfl, rfl, fun j _ h => by omega, Below.refl _ _⟩
      case round =>
        obtain ⟨k, hk, rfl, hfb, hsm, hb⟩ := hrel
        have hFr := hF2.below hb hF2.lt
        have hSr := hS2.below hb (Nat.le_refl _)
        have c0 := hFr.c0
        have c1 := hFr.c1
        have c2 := hFr.c2
        have hwr := hw2.trans (hb.mono hw2.size)
        by_cases hlt : k < n
        · have hkD : k < D.length := by omega
          obtain ⟨bk, off, hae, hbk, hcl⟩ := hSr.get k hkD
          simp only [Option.some.injEq, Addr.mk.injEq, and_true] at hae
          obtain ⟨rfl, rfl⟩ := hae
          have hst := HStep.out k hkD
          rw [← hfb] at hst
          have hx := HDs.out D[k] (List.getElem_mem hkD)
          have HM := Lib.hid (fun (e : D[k].size ≤ 64) j (hj : j < D.length) (hjk : j < k + 1) => (show D[j].size ≤ 64 from by
            by_cases e2 : j = k
            · subst e2; exact e
            · exact hsm j hj (by omega)))
          have HSt := Lib.hid hst
          have hki : (k : Int) < (n : Int) := by omega
          rw [Nat.zero_add] at hcl
          clear hst hsm hfb hSr hFr
          generalize D[k] = x at *
          by_cases hvx : verB f.sums k x = 0
          · have hvb : (verB f.sums k x != 0) = false := by simpa using hvx
            have hfb2 : firstBad f.sums 0 D = firstBad f.sums (k + 1) (D.drop (k + 1)) := by rw [HSt.out, if_neg (by simp [hvx])]
            have hsm2 := HM.out (verB_small hvx)
            have HVx := Lib.hid (HV.out wr k x hwr hx)
            clear HM HSt hvx
            go_wp2_with (go_at_call 53; refine HVx.out.mono ?_; rintro e w4 ⟨rfl, hb4⟩)
            go_roundw
            case rel => exact ⟨k + 1, by omega, by go_num, hfb2, hsm2, bt hb hb4⟩
            case measure => simp [intOf]; omega
          · have hvb : (verB f.sums k x != 0) = true := by simpa using hvx
            have hR : R = ([], verB f.sums k x) := by rw [HR.out, HSt.out, if_pos hvx, if_pos hvx]
            have HVx := Lib.hid (HV.out wr k x hwr hx)
            subst hR
            clear HM HSt hvx HR
            go_wp2_with (go_at_call 53; refine HVx.out.mono ?_; rintro e w4 ⟨rfl, hb4⟩)
            go_ret2
            exact ⟨rfl, bt hwr hb4⟩
        · obtain rfl : k = n := by omega
          have hR : R = (flat D, 0) := by rw [HR.out, hfb, List.drop_eq_nil_of_le (by omega), firstBad, if_neg (by simp)]; rfl
          have hfl : (flat D).length ≤ 64 * D.length := flat_small D (fun x hx => by
            obtain ⟨j, hj, rfl⟩ := List.getElem_of_mem hx
            exact hsm j hj (by omega))
          have HJ := Lib.hid (join_any D _ _ _ wr hSr hb.size (by omega) (by omega))
          subst hR
          clear HR hfb hsm hfl
          go_wp2_with (go_at_call 55; refine HJ.out.mono ?_; rintro e w4 ⟨rfl, hb4⟩)
          go_ret2
          exact ⟨rfl, bt hwr hb4⟩
  · have hzb : (chkF f != 0) = true := by simpa using hz
    rw [wholeF_e1 hz]
    clear hz hv HS HV
    go_enter Try.func32, Try.ntmps32
    go_wp2_with fail
    refine (HK.out _ (below_box w _)).mono ?_
    rintro e w1 ⟨rfl, hb1⟩
    obtain ⟨c0, c1, c2, _, hb2, hs⟩ := box3 hb1
    clear hb1
    go_wp2_with fail
    go_ret2
    exact ⟨rfl, hb2⟩
end Go.Proofs.Ytbbfbeacgnimpaa
