/-
  Fragments: the walks of the laws on Check, Split and Expire.
-/
import Derived.Test.YtmjamjadfnbkdaaFst
import Derived.Test.YtmjamjadfnbkdaaFrd
import Derived.Test.YtmjamjadfnbkdaaFsn
import Derived.Test.YtmjamjadfnbkdaaFsp
open Go Go.RowKit Go.Proofs
namespace Go.Proofs.Ytmjamjadfnbkdaa
open Hub

theorem lawChecks (s : ByteArray) (w : World) (_hs : s.size ≤ maxLen) :
    Calls Try.prog 4 #[.string s] w fun e w' => e = .returned (.bool true) ∧ Below w.heap.size w w' := by
  by_cases hj : 200 < s.size
  · have hji : (200 : Int) < (s.size : Int) := by omega
    clear _hs
    go_enter Try.func4, Try.ntmps4
    go_wp2_with (refine (awake_any _).mono ?_; rintro e w1 ⟨rfl, hb⟩)
    go_ret
    exact ⟨rfl, hb⟩
  · have hji : ¬ (200 : Int) < (s.size : Int) := by omega
    have H1 := Lib.hid (fun W => chk_any s W (by omega))
    have H2 := Lib.hid (fun W => xChk_any s W (by omega))
    generalize chkF s = c at *
    clear _hs
    go_enter Try.func4, Try.ntmps4
    go_wp2_with fail
    refine (H1.out _).mono ?_
    rintro e w1 ⟨rfl, hb1⟩
    go_wp2_with fail
    refine (H2.out _).mono ?_
    rintro e w2 ⟨rfl, hb2⟩
    go_wp2_with (refine (awake_any _).mono ?_; rintro e w3 ⟨rfl, hb3⟩)
    go_ret
    exact ⟨rfl, bt (bt hb1 hb2) hb3⟩

theorem lawSplits (s : ByteArray) (id : Int) (w : World) (_hs : s.size ≤ maxLen) (_h0 : -9223372036854775808 ≤ id) (_h1 : id ≤ 9223372036854775807) :
    Calls Try.prog 3 #[.string s, .int .i64 id] w fun e w' => e = .returned (.bool true) ∧ Below w.heap.size w w' := by
  by_cases hj : 1100 < s.size
  · have hji : (1100 : Int) < (s.size : Int) := by omega
    clear _hs _h0 _h1
    go_enter Try.func3, Try.ntmps3
    go_wp2_with (refine (awake_any _).mono ?_; rintro e w1 ⟨rfl, hb⟩)
    go_ret
    exact ⟨rfl, hb⟩
  · have hji : ¬ (1100 : Int) < (s.size : Int) := by omega
    have H1 := Lib.hid (fun W => split_any s id W (by omega))
    have H2 := Lib.hid (fun W => xSplit_any s id W (by omega))
    have hlen : (splitF s id).1.length ≤ 1000 := by
      unfold splitF
      split
      · exact Nat.zero_le _
      · split
        · exact Nat.zero_le _
        · have := cntS_le s (by omega)
          rw [pcsN_length]; omega
    generalize splitF s id = R at *
    clear _hs _h0 _h1
    go_enter Try.func3, Try.ntmps3
    go_wp2_with fail
    refine (H1.out _).mono ?_
    rintro e w1 ⟨u1, rfl, hu1, hb1⟩
    go_wp2_with fail
    refine (H2.out _).mono ?_
    rintro e w2 ⟨u2, rfl, hu2, hb2⟩
    have HP := Lib.hid (piecesT u1 u2 R.1 _ _ _ _ w2 (hu1.below hb2 (Nat.le_refl _)) hu2 (by omega))
    have HB := Lib.hid (bt hb1 hb2)
    clear hu1 hu2 hb1 hb2 hlen
    go_wp2_with fail
    refine HP.out.mono ?_
    rintro e w3 ⟨rfl, hb3⟩
    go_wp2_with (refine (awake_any _).mono ?_; rintro e w4 ⟨rfl, hb4⟩)
    go_ret
    exact ⟨rfl, bt (bt HB.out hb3) hb4⟩
namespace Hub
theorem validF_lens {p : Pk} (h : validF p = true) : p.hv.length ≤ 1000 ∧ p.dt.length ≤ 1000 := by
  obtain ⟨n, n1, n2, n3, n4, _⟩ := validF_len h
  omega
theorem expireF_valid {l : List Pk} {now life : Int} : ∀ q ∈ expireF l now life, validF q = true := fun q hq => orderF_valid l q (List.mem_filter.1 hq).1
theorem expireF_len (l : List Pk) (now life : Int) : (expireF l now life).length ≤ 8 := Nat.le_trans (List.length_filter_le _ _) (orderF_len l)
end Hub
open Hub

theorem lawExpires (v : Value) (l : List Pt) (now life : Int) (w : World) (hv : PtsAt 0 w.heap.size w v l) :
    Calls Try.prog 9 #[v, .int .i64 now, .int .i64 life] w fun e w' => e = .returned (.bool true) ∧ Below w.heap.size w w' := by
  have HF := Lib.hid (few_any v l 0 w.heap.size w hv (Nat.le_refl _))
  cases hf : fewF (l.map Pt.pk) with
  | false =>
    rw [hf] at HF
    clear hv hf
    go_enter Try.func9, Try.ntmps9
    go_wp2_with (first | (go_at_call 17; refine HF.out.mono ?_; rintro e w1 ⟨rfl, hb1⟩) | (go_at_call 11; refine (awake_any _).mono ?_; rintro e w2 ⟨rfl, hb2⟩))
    go_ret
    exact ⟨rfl, bt hb1 hb2⟩
  | true =>
    rw [hf] at HF
    have hl := fewF_len hf
    rw [List.length_map] at hl
    have H1 := Lib.hid (fun W (k : Below w.heap.size w W) => expire_any v l 0 w.heap.size now life W (hv.below k (Nat.le_refl _)) k.size (by omega))
    have H2 := Lib.hid (fun W (k : Below w.heap.size w W) => xExpire_any v l 0 w.heap.size now life W (hv.below k (Nat.le_refl _)) k.size (by omega))
    have hlen := expireF_len (l.map Pt.pk) now life
    have hval := expireF_valid (l := l.map Pt.pk) (now := now) (life := life)
    generalize expireF (l.map Pt.pk) now life = R at *
    clear hv hf hl
    go_enter Try.func9, Try.ntmps9
    go_wp2_with (go_at_call 17; refine HF.out.mono ?_; rintro e w1 ⟨rfl, hb1⟩)
    refine (H1.out _ hb1).mono ?_
    rintro e w2 ⟨u2, m2, rfl, hm2, hp2, hb2⟩
    have hb12 := bt hb1 hb2
    go_wp2_with fail
    refine (H2.out _ hb12).mono ?_
    rintro e w3 ⟨u3, m3, rfl, hm3, hp3, hb3⟩
    have HS := Lib.hid (sameList_any u2 u3 m2 m3 _ _ _ _ w3 (hm3.trans hm2.symm) (hp2.below hb3 (Nat.le_refl _)) hp3 hb3.size (Nat.le_refl _)
      (by have := congrArg List.length hm2; rw [List.length_map] at this; omega)
      (fun p hp => validF_lens (hval _ (by rw [← hm2]; exact List.mem_map.2 ⟨p, hp, rfl⟩))))
    have HB := Lib.hid (bt hb12 hb3)
    clear hm2 hm3 hp2 hp3 hb1 hb2 hb3 hb12 hlen hval
    go_wp2_with fail
    refine HS.out.mono ?_
    rintro e w4 ⟨rfl, hb4⟩
    go_wp2_with (refine (awake_any _).mono ?_; rintro e w5 ⟨rfl, hb5⟩)
    go_ret
    exact ⟨rfl, bt (bt HB.out hb4) hb5⟩
end Go.Proofs.Ytmjamjadfnbkdaa
