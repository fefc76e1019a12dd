/-
  The walks of what reads a journal's header and record, the reference's.
-/
import Derived.Test.YtnglepapodncbaaJouE
open Go Go.RowKit Go.Proofs
namespace Go.Proofs.Ytnglepapodncbaa
namespace Hub
theorem top_step {J : List UInt8} {k : Nat} (hk : k < 3) (hJ : k < J.length) (h : J.take k = magicJ.take k) : (J.take (k + 1) = magicJ.take (k + 1) ↔ J[k] = magicJ[k]'hk) ∧ (J[k] ≠ magicJ[k]'hk → J.take 3 ≠ magicJ.take J.length) := by
  have e1 : J.take (k + 1) = J.take k ++ [J[k]] := List.take_succ_eq_append_getElem hJ
  have e2 : magicJ.take (k + 1) = magicJ.take k ++ [magicJ[k]'hk] := List.take_succ_eq_append_getElem hk
  refine ⟨by rw [e1, e2, h]; simp, fun hne he => hne ?_⟩
  have h1 := congrArg (fun l => l[k]?) he
  simp only [List.getElem?_take, hk, hJ, if_true] at h1
  rw [List.getElem?_eq_getElem hJ, List.getElem?_eq_getElem (show k < magicJ.length from hk)] at h1
  exact Option.some.inj h1
end Hub
open Hub

set_option maxHeartbeats 1000000 in
theorem xTop_any (j : ByteArray) (w : World) (hs : j.size ≤ 1099511627776) :
    Calls Try.prog 34 #[.string j] w fun e w' => e = .returned (.tuple #[.int .i64 (topJ (bl j)).1, .int .i64 (topJ (bl j)).2.1, .int .i64 (topJ (bl j)).2.2]) ∧ Below w.heap.size w w' := by
  have hsz := size_bl j
  by_cases h1 : 1048576 < (bl j).length
  · rw [topJ_long h1]
    have h1i : (1048576 : Int) < (j.size : Int) := by omega
    go_enter Try.func34, Try.ntmps34
    go_wp2_with fail
    go_ret3
    exact ⟨rfl, Below.refl _ _⟩
  · have h1i : ¬ (1048576 : Int) < (j.size : Int) := by omega
    have Hfo := Lib.hid (fun h => topJ_form h1 h)
    have Hsh := Lib.hid (topJ_short h1)
    have Her := Lib.hid (topJ_err h1)
    have Hbd := Lib.hid (topJ_bad h1)
    have Hgd := Lib.hid (topJ_good h1)
    generalize hT : topJ (bl j) = T at *
    clear h1
    go_enter Try.func34, Try.ntmps34
    go_wp2_with fail
    go_loopw [5] (fun i wr => ∃ k : Nat, k ≤ 3 ∧ k ≤ j.size ∧ i = .int .i64 k ∧ (bl j).take k = magicJ.take k ∧ ∃ n, wr = w.drewN n) (fun i _ => 3 - (intOf i).toNat)
    case atStart => exact ⟨0, by omega, Nat.zero_le _, rfl, rfl, 0, rfl⟩
    case round =>
      obtain ⟨k, hk3, hks, rfl, htk, n, rfl⟩ := hrel
      by_cases hk : k = 3
      · subst hk
        have h3i : (3 : Int) ≤ (j.size : Int) := by omega
        have h2 : ¬ (bl j).take 3 ≠ magicJ.take (bl j).length := fun h => h (by rw [htk, List.take_of_length_le (show magicJ.length ≤ (bl j).length by show 3 ≤ _; omega)]; rfl)
        have h3 : ¬ (bl j).length < 3 := by omega
        have HN := Lib.hid (fun w => xNew_any (j.extract 3 j.size) w (by rw [ByteArray.size_extract]; omega))
        rw [bl_drop] at HN
        have hg := Lib.hid (fun a b => Hgd.out h2 h3 a b)
        have hbd := Lib.hid (fun a b => Hbd.out h2 h3 a b)
        have her := Lib.hid (fun a => Her.out h2 h3 a)
        have HL := Lib.hid (rInt_rest ⟨(bl j).drop 3, 0⟩)
        have HI := Lib.hid (fun B S w h => xInt_any B S ⟨(bl j).drop 3, 0⟩ w h)
        have HD : ((bl j).drop 3).length ≤ j.size := by rw [List.length_drop]; omega
        rw [hsz] at hg
        clear h2 h3 Hgd Hbd Her Hfo Hsh htk hT
        generalize (bl j).drop 3 = D at *
        generalize rInt ⟨D, 0⟩ = o at *
        go_wp2_with fail
        refine (HN.out _).mono ?_
        rintro e w1 ⟨rfl, hrd, hb, _⟩
        go_wp2_with fail
        refine (HI.out _ _ _ hrd).mono ?_
        rintro e w2 ⟨rfl, hrd2, ht2⟩
        have hb0 : Below w.heap.size w w1 := (Below.drewN' (Below.refl _ _) n).trans hb
        have hb2 : Below w.heap.size w w2 := tch_new hb0 ht2 (Nat.le_refl _) (Nat.le_refl _)
        have HRest : (o.2.rest.length : Int) ≤ j.size := by
          obtain ⟨k, e1, _, _⟩ := HL.out
          rw [e1, List.length_drop]; show ((D.length - k : Nat) : Int) ≤ _; omega
        have HRest0 : (0 : Int) ≤ (o.2.rest.length : Int) := by omega
        clear HL HD ht2 hrd hb hb0
        have hBB : (w.drewN n).heap.size = w.heap.size := rfl
        rw [hBB] at hrd2
        generalize hBw : w.heap.size = B at *
        generalize w.drewN n = w0 at *
        generalize j.extract 3 j.size = K at *
        have HEr := Lib.hid (fun w h => xErr_any B K o.2 w h)
        by_cases he : o.2.err = 0
        · have heb : (o.2.err != 0) = false := by simpa using he
          have HLe := Lib.hid (fun w h => xLeft_any B K o.2 w h)
          have hleft : rLeft o.2 = (o.2.rest.length : Int) := by rw [rLeft, if_neg (by omega)]
          rw [hleft] at HLe
          clear hleft
          generalize (o.2.rest.length : Int) = R at *
          by_cases h5 : o.1 < 1
          · have hT := hbd.out (by omega) (.inl h5)
            clear hg hbd her he
            subst hT
            go_wp2_with (first | (go_at_call 49; refine (HEr.out _ hrd2).mono ?_; rintro e w3 ⟨rfl, rfl⟩))
            go_ret3
            exact ⟨rfl, hBw.symm ▸ hb2⟩
          · by_cases h6 : 1099511627776 < o.1
            · have hT := hbd.out (by omega) (.inr h6)
              clear hg hbd her he
              subst hT
              go_wp2_with (first | (go_at_call 49; refine (HEr.out _ hrd2).mono ?_; rintro e w3 ⟨rfl, rfl⟩))
              go_ret3
              exact ⟨rfl, hBw.symm ▸ hb2⟩
            · have hT := hg.out (by omega) (by omega)
              clear hg hbd her he
              subst hT
              go_wp2_with (first | (go_at_call 49; refine (HEr.out _ hrd2).mono ?_; rintro e w3 ⟨rfl, rfl⟩) | (go_at_call 50; refine (HLe.out _ hrd2).mono ?_; rintro e w3 ⟨rfl, n3, rfl⟩))
              go_ret3
              exact ⟨rfl, by exact Below.drewN' hb2 _⟩
        · have heb : (o.2.err != 0) = true := by simpa using he
          have hT := her.out he
          clear hg hbd her he
          subst hT
          go_wp2_with (first | (go_at_call 49; refine (HEr.out _ hrd2).mono ?_; rintro e w3 ⟨rfl, rfl⟩))
          go_ret3
          exact ⟨rfl, hBw.symm ▸ hb2⟩
      · by_cases hlt : k < j.size
        · obtain ⟨h4, h5⟩ := top_step (show k < 3 by omega) (by rw [hsz]; exact hlt) htk
          have hge : (bl j)[k]'(by rw [hsz]; exact hlt) = j[k] := rfl
          rw [hge] at h4 h5
          have H4 := Lib.hid h4
          have H5 := Lib.hid h5
          clear h4 h5 hge Her Hbd Hgd Hsh
          have hk012 : k = 0 ∨ k = 1 ∨ k = 2 := by omega
          rcases hk012 with rfl | rfl | rfl
          · have hli : (0 : Int) < (j.size : Int) := by omega
            have hln : 0 < j.size := hlt
            by_cases hc : j[0] = 72
            · have hb5 : ((j[0].toNat : Int) != (((⟨#[72, 74, 49]⟩ : ByteArray)[0]'(by decide)).toNat : Int)) = false := by rw [hc]; rfl
              have hnx := H4.out.2 hc
              clear H4 H5 hc htk
              go_wp2_with fail
              go_quiet (fail)
              go_wp2_with fail
              go_roundw
              case rel => exact ⟨0 + 1, by omega, by omega, by go_num, hnx, _, rfl⟩
              case measure => simp [intOf]
            · have hb5 : ((j[0].toNat : Int) != (((⟨#[72, 74, 49]⟩ : ByteArray)[0]'(by decide)).toNat : Int)) = true := by
                simp only [bne_iff_ne, ne_eq]
                intro h
                have h' : (j[0].toNat : Int) = ((72 : Nat) : Int) := h
                exact hc (UInt8.toNat_inj.1 (by show j[0].toNat = 72; omega))
              have hT2 := Hfo.out (H5.out hc)
              clear H4 H5 hc htk Hfo hT
              subst hT2
              go_wp2_with fail
              go_quiet (fail)
              go_wp2_with fail
              go_ret3
              exact ⟨rfl, Below.drewN' (Below.refl _ _) _⟩
          · have hli : (1 : Int) < (j.size : Int) := by omega
            have hln : 1 < j.size := hlt
            by_cases hc : j[1] = 74
            · have hb5 : ((j[1].toNat : Int) != (((⟨#[72, 74, 49]⟩ : ByteArray)[1]'(by decide)).toNat : Int)) = false := by rw [hc]; rfl
              have hnx := H4.out.2 hc
              clear H4 H5 hc htk
              go_wp2_with fail
              go_quiet (fail)
              go_wp2_with fail
              go_roundw
              case rel => exact ⟨1 + 1, by omega, by omega, by go_num, hnx, _, rfl⟩
              case measure => simp [intOf]
            · have hb5 : ((j[1].toNat : Int) != (((⟨#[72, 74, 49]⟩ : ByteArray)[1]'(by decide)).toNat : Int)) = true := by
                simp only [bne_iff_ne, ne_eq]
                intro h
                have h' : (j[1].toNat : Int) = ((74 : Nat) : Int) := h
                exact hc (UInt8.toNat_inj.1 (by show j[1].toNat = 74; omega))
              have hT2 := Hfo.out (H5.out hc)
              clear H4 H5 hc htk Hfo hT
              subst hT2
              go_wp2_with fail
              go_quiet (fail)
              go_wp2_with fail
              go_ret3
              exact ⟨rfl, Below.drewN' (Below.refl _ _) _⟩
          · have hli : (2 : Int) < (j.size : Int) := by omega
            have hln : 2 < j.size := hlt
            by_cases hc : j[2] = 49
            · have hb5 : ((j[2].toNat : Int) != (((⟨#[72, 74, 49]⟩ : ByteArray)[2]'(by decide)).toNat : Int)) = false := by rw [hc]; rfl
              have hnx := H4.out.2 hc
              clear H4 H5 hc htk
              go_wp2_with fail
              go_quiet (fail)
              go_wp2_with fail
              go_roundw
              case rel => exact ⟨2 + 1, by omega, by omega, by go_num, hnx, _, rfl⟩
              case measure => simp [intOf]
            · have hb5 : ((j[2].toNat : Int) != (((⟨#[72, 74, 49]⟩ : ByteArray)[2]'(by decide)).toNat : Int)) = true := by
                simp only [bne_iff_ne, ne_eq]
                intro h
                have h' : (j[2].toNat : Int) = ((49 : Nat) : Int) := h
                exact hc (UInt8.toNat_inj.1 (by show j[2].toNat = 49; omega))
              have hT2 := Hfo.out (H5.out hc)
              clear H4 H5 hc htk Hfo hT
              subst hT2
              go_wp2_with fail
              go_quiet (fail)
              go_wp2_with fail
              go_ret3
              exact ⟨rfl, Below.drewN' (Below.refl _ _) _⟩
        · have h3 : (bl j).length < 3 := by omega
          have hkj : k = j.size := by omega
          have h2 : ¬ (bl j).take 3 ≠ magicJ.take (bl j).length := fun h => h (by rw [hsz, ← hkj, ← htk, List.take_of_length_le (by omega), List.take_of_length_le (by omega)])
          have hT2 := Hsh.out h2 h3
          subst hkj
          have h3i : (j.size : Int) < 3 := by omega
          clear h2 h3 Hsh Her Hbd Hgd Hfo htk hT
          subst hT2
          go_wp2_with fail
          go_ret3
          exact ⟨rfl, Below.drewN' (Below.refl _ _) _⟩
end Go.Proofs.Ytnglepapodncbaa
