/-
  The walks of what reads a journal's header, the program's.
-/
import Derived.Test.YtnglepapodncbaaJouA
open Go Go.RowKit Go.Proofs
namespace Go.Proofs.Ytnglepapodncbaa
namespace Hub
section
variable {j : List UInt8}
theorem topJ_long (h : 1048576 < j.length) : topJ j = (0, 0, 3) := by rw [topJ, if_pos h]
theorem topJ_form (h : ¬ 1048576 < j.length) (h2 : j.take 3 ≠ magicJ.take j.length) : topJ j = (0, 0, 4) := by rw [topJ, if_neg h, if_pos h2]
theorem topJ_short (h : ¬ 1048576 < j.length) (h2 : ¬ j.take 3 ≠ magicJ.take j.length) (h3 : j.length < 3) : topJ j = (0, 0, 5) := by rw [topJ, if_neg h, if_neg h2, if_pos h3]
theorem topJ_err (h : ¬ 1048576 < j.length) (h2 : ¬ j.take 3 ≠ magicJ.take j.length) (h3 : ¬ j.length < 3) (h4 : (rInt ⟨j.drop 3, 0⟩).2.err ≠ 0) : topJ j = (0, 0, (rInt ⟨j.drop 3, 0⟩).2.err) := by
  rw [topJ, if_neg h, if_neg h2, if_neg h3, if_pos h4]
theorem topJ_bad (h : ¬ 1048576 < j.length) (h2 : ¬ j.take 3 ≠ magicJ.take j.length) (h3 : ¬ j.length < 3) (h4 : ¬ (rInt ⟨j.drop 3, 0⟩).2.err ≠ 0) (h5 : (rInt ⟨j.drop 3, 0⟩).1 < 1 ∨ 1099511627776 < (rInt ⟨j.drop 3, 0⟩).1) : topJ j = (0, 0, 4) := by
  rw [topJ, if_neg h, if_neg h2, if_neg h3, if_neg h4, if_pos h5]
theorem topJ_good (h : ¬ 1048576 < j.length) (h2 : ¬ j.take 3 ≠ magicJ.take j.length) (h3 : ¬ j.length < 3) (h4 : ¬ (rInt ⟨j.drop 3, 0⟩).2.err ≠ 0) (h5 : ¬ ((rInt ⟨j.drop 3, 0⟩).1 < 1 ∨ 1099511627776 < (rInt ⟨j.drop 3, 0⟩).1)) :
    topJ j = ((rInt ⟨j.drop 3, 0⟩).1, (j.length : Int) - (rInt ⟨j.drop 3, 0⟩).2.rest.length, 0) := by
  rw [topJ, if_neg h, if_neg h2, if_neg h3, if_neg h4, if_neg h5]
end
theorem tch_new {w w1 w2 : World} {N B : Nat} (h : Below N w w1) (k : Tch B w1 w2) (hB : N ≤ B) (hN : N ≤ w.heap.size) : Below N w w2 :=
  h.trans (k.below hB (Nat.le_trans hN h.size))
theorem Below.drewN' {N : Nat} {w w' : World} (h : Below N w w') (n : Nat) : Below N w (w'.drewN n) := ⟨h.os, h.tape, h.output, h.size, h.block⟩
theorem Below.drew' {N : Nat} {w w' : World} (h : Below N w w') : Below N w w'.drew := ⟨h.os, h.tape, h.output, h.size, h.block⟩
theorem below_drew {N : Nat} {w w1 w2 : World} (h : Below N w w1) (k : Below w1.drew.heap.size w1.drew w2) (hN : N ≤ w.heap.size) : Below N w w2 :=
  (Below.drew' h).trans (k.mono (Nat.le_trans hN h.size))
theorem top_cmp (j : ByteArray) : bl (j.extract 0 (min (j.size : Int) 3).toNat) = (bl j).take 3 ∧ bl ((⟨#[72, 74, 49]⟩ : ByteArray).extract 0 (min (j.size : Int) 3).toNat) = magicJ.take (bl j).length := by
  have hsz := size_bl j
  rw [bl_take, bl_take]
  by_cases h : 3 ≤ j.size
  · have e : (min (j.size : Int) 3).toNat = 3 := by omega
    rw [e]
    exact ⟨rfl, by rw [List.take_of_length_le (show magicJ.length ≤ (bl j).length by show 3 ≤ _; omega)]; rfl⟩
  · have e : (min (j.size : Int) 3).toNat = j.size := by omega
    rw [e, take_bl, List.take_of_length_le (by omega), hsz]
    exact ⟨rfl, rfl⟩
end Hub
open Hub

set_option maxHeartbeats 1000000 in
theorem wTop_any (j : ByteArray) (w : World) (hs : j.size ≤ 1099511627776) :
    Calls Try.prog 32 #[.string j] w fun e w' => e = .returned (.tuple #[.int .i64 (topJ (bl j)).1, .int .i64 (topJ (bl j)).2.1, .int .i64 (topJ (bl j)).2.2]) ∧ Below w.heap.size w w' := by
  have hsz := size_bl j
  by_cases h1 : 1048576 < (bl j).length
  · rw [topJ_long h1]
    have h1i : (1048576 : Int) < (j.size : Int) := by omega
    go_enter Try.func32, Try.ntmps32
    go_wp2_with fail
    go_ret3
    exact ⟨rfl, Below.refl _ _⟩
  · have h1i : ¬ (1048576 : Int) < (j.size : Int) := by omega
    obtain ⟨e1, e2⟩ := top_cmp j
    have hk0 : 0 ≤ min (j.size : Int) 3 := by omega
    have hk1 : min (j.size : Int) 3 ≤ (j.size : Int) := by omega
    have hk2 : min (j.size : Int) 3 ≤ 3 := by omega
    have HX := Lib.hid e1
    have HY := Lib.hid e2
    clear e1 e2
    by_cases h2 : (bl j).take 3 ≠ magicJ.take (bl j).length
    · rw [topJ_form h1 h2]
      have hb2 := Lib.hid (show ((j.extract 0 (min (j.size : Int) 3).toNat).toList == ((⟨#[72, 74, 49]⟩ : ByteArray).extract 0 (min (j.size : Int) 3).toNat).toList) = false from beq_of_ne (fun h => h2 (by rw [← HX.out, ← HY.out, h])))
      clear h1 h2 hsz HX HY
      go_enter Try.func32, Try.ntmps32
      go_wp2_with fail
      have hb3 := hb2.out
      clear hb2
      generalize min (j.size : Int) 3 = k at *
      go_quiet (fail)
      go_wp2_with fail
      go_ret3
      exact ⟨rfl, Below.drewN' (Below.refl _ _) _⟩
    · have hb2 := Lib.hid (show ((j.extract 0 (min (j.size : Int) 3).toNat).toList == ((⟨#[72, 74, 49]⟩ : ByteArray).extract 0 (min (j.size : Int) 3).toNat).toList) = true from beq_of_eq (bl_inj (HX.out.trans ((Classical.not_not.1 h2).trans HY.out.symm))))
      clear HX HY
      by_cases h3 : (bl j).length < 3
      · rw [topJ_short h1 h2 h3]
        have hk3 : min (j.size : Int) 3 < 3 := by omega
        clear h1 h2 h3 hsz
        go_enter Try.func32, Try.ntmps32
        go_wp2_with fail
        have hb3 := hb2.out
        clear hb2
        generalize min (j.size : Int) 3 = k at *
        go_quiet (fail)
        go_wp2_with fail
        go_ret3
        exact ⟨rfl, Below.drewN' (Below.refl _ _) _⟩
      · have hk3 : min (j.size : Int) 3 = 3 := by omega
        have h3j : (3 : Int) ≤ (j.size : Int) := by omega
        have HN := Lib.hid (fun w => wNew_any (j.extract 3 j.size) w (by rw [ByteArray.size_extract]; omega))
        rw [bl_drop] at HN
        have hg := Lib.hid (topJ_good h1 h2 h3)
        have hbd := Lib.hid (topJ_bad h1 h2 h3)
        have her := Lib.hid (topJ_err h1 h2 h3)
        have HL := Lib.hid (rInt_rest ⟨(bl j).drop 3, 0⟩)
        have HI := Lib.hid (fun B w h => wrInt_any B ⟨(bl j).drop 3, 0⟩ w h)
        have HD : ((bl j).drop 3).length ≤ j.size := by rw [List.length_drop]; omega
        rw [hsz] at hg
        clear h1 h2 h3
        generalize (bl j).drop 3 = D at *
        generalize rInt ⟨D, 0⟩ = o at *
        generalize topJ (bl j) = T at *
        go_enter Try.func32, Try.ntmps32
        go_wp2_with fail
        have hb3 := hb2.out
        clear hb2
        generalize min (j.size : Int) 3 = k at *
        subst hk3
        have hb4 : ((j.extract 0 3).toList == ((⟨#[72, 74, 49]⟩ : ByteArray).extract 0 3).toList) = true := hb3
        clear hb3
        go_quiet (fail)
        go_wp2_with fail
        refine (HN.out _).mono ?_
        rintro e w1 ⟨rfl, hrd, hb, _⟩
        go_wp2_with fail
        refine (HI.out _ _ hrd).mono ?_
        rintro e w2 ⟨rfl, hrd2, ht2⟩
        have hb0 : Below w.heap.size w w1 := (Below.drewN' (Below.refl _ _) nq).trans hb
        have hb2 : Below w.heap.size w w2 := tch_new hb0 ht2 (Nat.le_refl _) (Nat.le_refl _)
        have HRest : (o.2.rest.length : Int) ≤ j.size := by
          obtain ⟨k, e1, _, _⟩ := HL.out
          rw [e1, List.length_drop]; show ((D.length - k : Nat) : Int) ≤ _; omega
        have HRest0 : (0 : Int) ≤ (o.2.rest.length : Int) := by omega
        clear HL HD ht2 hrd hb hb0
        have hBB : (w.drewN nq).heap.size = w.heap.size := rfl
        rw [hBB] at hrd2
        generalize hBw : w.heap.size = B at *
        generalize w.drewN nq = w0 at *
        have HEr := Lib.hid (fun w h => wErr_any B o.2 w h)
        by_cases he : o.2.err = 0
        · have heb : (o.2.err != 0) = false := by simpa using he
          have HLe := Lib.hid (fun w h => wLeft_any B o.2 w h)
          have hleft : rLeft o.2 = (o.2.rest.length : Int) := by rw [rLeft, if_neg (by omega)]
          rw [hleft] at HLe
          clear hleft
          generalize (o.2.rest.length : Int) = R at *
          by_cases h5 : o.1 < 1
          · have hT := hbd.out (by omega) (.inl h5)
            clear hg hbd her he
            subst hT
            go_wp2_with (first | (go_at_call 44; refine (HEr.out _ hrd2).mono ?_; rintro e w3 ⟨rfl, rfl⟩) | (go_at_call 45; refine (HLe.out _ hrd2).mono ?_; rintro e w3 ⟨rfl, rfl⟩))
            go_ret3
            exact ⟨rfl, hBw.symm ▸ hb2⟩
          · by_cases h6 : 1099511627776 < o.1
            · have hT := hbd.out (by omega) (.inr h6)
              clear hg hbd her he
              subst hT
              go_wp2_with (first | (go_at_call 44; refine (HEr.out _ hrd2).mono ?_; rintro e w3 ⟨rfl, rfl⟩) | (go_at_call 45; refine (HLe.out _ hrd2).mono ?_; rintro e w3 ⟨rfl, rfl⟩))
              go_ret3
              exact ⟨rfl, hBw.symm ▸ hb2⟩
            · have hT := hg.out (by omega) (by omega)
              clear hg hbd her he
              subst hT
              go_wp2_with (first | (go_at_call 44; refine (HEr.out _ hrd2).mono ?_; rintro e w3 ⟨rfl, rfl⟩) | (go_at_call 45; refine (HLe.out _ hrd2).mono ?_; rintro e w3 ⟨rfl, rfl⟩))
              go_ret3
              exact ⟨rfl, hBw.symm ▸ hb2⟩
        · have heb : (o.2.err != 0) = true := by simpa using he
          have hT := her.out he
          clear hg hbd her he
          subst hT
          go_wp2_with (first | (go_at_call 44; refine (HEr.out _ hrd2).mono ?_; rintro e w3 ⟨rfl, rfl⟩))
          go_ret3
          exact ⟨rfl, hBw.symm ▸ hb2⟩
end Go.Proofs.Ytnglepapodncbaa
