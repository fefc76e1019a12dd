/-
  Fragments: the walk of the law on Add.
-/
import Derived.Test.YtmjamjadfnbkdaaFtb
open Go Go.RowKit Go.Proofs
namespace Go.Proofs.Ytmjamjadfnbkdaa
namespace Hub
def LenOk (p : Pk) : Prop := p.hv.length ≤ 1000 ∧ p.dt.length ≤ 1000
theorem setF_len (p : Pk) (i : Nat) (d : ByteArray) : (setF p i d).hv.length = p.hv.length ∧ (setF p i d).dt.length = p.dt.length := by
  unfold setF; split
  · exact ⟨rfl, rfl⟩
  · exact ⟨List.length_set, List.length_set⟩
theorem finF_ok {l : List Pk} {k i : Nat} {d : ByteArray} (h : ∀ p ∈ l, LenOk p) : (∀ p ∈ (finF l k i d).1, LenOk p) ∧ (finF l k i d).1.length ≤ l.length := by
  unfold finF
  cases e : l[k]? with
  | none => exact ⟨h, Nat.le_refl _⟩
  | some p =>
    have hp : p ∈ l := List.mem_of_getElem? e
    dsimp only
    split
    · exact ⟨fun q hq => h q ((List.eraseIdx_sublist l k).subset hq), List.length_eraseIdx_le _ _⟩
    · refine ⟨fun q hq => ?_, by rw [List.length_set]; exact Nat.le_refl _⟩
      rcases List.mem_or_eq_of_mem_set hq with hq | rfl
      · exact h q hq
      · obtain ⟨e1, e2⟩ := setF_len p i d
        obtain ⟨g1, g2⟩ := h p hp
        exact ⟨by rw [e1]; exact g1, by rw [e2]; exact g2⟩
theorem stage_ok {l : List Pk} {a b c : Int} : (stage l a b c).1.Sublist l := by
  unfold stage; split
  · exact List.eraseIdx_sublist _ _
  · exact List.Sublist.refl _
theorem addF_ok (l : List Pk) (src now : Int) (s : ByteArray) : (∀ p ∈ (addF l src now s).1.1, LenOk p) ∧ (addF l src now s).1.1.length ≤ 1000 := by
  by_cases hc : chkF s = 0
  · have ho : ∀ p ∈ orderF l, LenOk p := fun p hp => validF_lens (orderF_valid l p hp)
    have hol := orderF_len l
    have hst : ∀ c, (∀ p ∈ (stage (orderF l) src (byI s 0) c).1, LenOk p) ∧ (stage (orderF l) src (byI s 0) c).1.length ≤ 8 := fun c =>
      ⟨fun p hp => ho p (stage_ok.subset hp), Nat.le_trans stage_ok.length_le hol⟩
    by_cases h1 : byI s 2 = 1
    · rw [addF_one hc h1]
      exact ⟨(hst 1).1, Nat.le_trans (hst 1).2 (by omega)⟩
    · rw [addF_go hc h1]
      obtain ⟨g1, g2⟩ := hst (byI s 2)
      generalize (stage (orderF l) src (byI s 0) (byI s 2)).1 = M at *
      generalize (stage (orderF l) src (byI s 0) (byI s 2)).2 = a at *
      dsimp only
      unfold goF
      split
      · have hsub : (room M).Sublist M := by unfold room; split; exact List.eraseIdx_sublist _ _; exact List.Sublist.refl _
        have hN : ∀ p ∈ room M ++ [newP src (byI s 0) (byI s 2) now], LenOk p := by
          intro p hp
          rcases List.mem_append.1 hp with hp | hp
          · exact g1 p (hsub.subset hp)
          · rw [List.mem_singleton.1 hp]
            have := byI_hi s 2
            unfold LenOk newP
            dsimp only
            rw [List.length_replicate, List.length_replicate]
            omega
        have := finF_ok (k := (room M).length) (i := (byI s 1).toNat) (d := s.extract 3 s.size) hN
        refine ⟨this.1, Nat.le_trans this.2 ?_⟩
        rw [List.length_append, List.length_singleton]
        have := hsub.length_le
        omega
      · have := finF_ok (k := a.toNat) (i := (byI s 1).toNat) (d := s.extract 3 s.size) g1
        exact ⟨this.1, Nat.le_trans this.2 (by omega)⟩
  · rw [addF_bad hc]
    exact ⟨fun p hp => by simp at hp, by simp⟩
end Hub
open Hub

set_option maxHeartbeats 1000000 in
theorem lawAdds (v : Value) (l : List Pt) (src now : Int) (s : ByteArray) (w : World) (hv : PtsAt 0 w.heap.size w v l) (_h0 : -9223372036854775808 ≤ src) (_h1 : src ≤ 9223372036854775807) (_h2 : -9223372036854775808 ≤ now) (_h3 : now ≤ 9223372036854775807) (_hs : s.size ≤ maxLen) :
    Calls Try.prog 5 #[v, .int .i64 src, .int .i64 now, .string s] w fun e w' => e = .returned (.bool true) ∧ Below w.heap.size w w' := by
  have HF := Lib.hid (few_any v l 0 w.heap.size w hv (Nat.le_refl _))
  clear _h0 _h1 _h2 _h3
  cases hf : fewF (l.map Pt.pk) with
  | false =>
    rw [hf] at HF
    clear hv hf _hs
    go_enter Try.func5, Try.ntmps5
    go_wp2_with (first | (go_at_call 17; refine HF.out.mono ?_; rintro e w1 ⟨rfl, hb1⟩) | (go_at_call 11; refine (awake_any _).mono ?_; rintro e w2 ⟨rfl, hb2⟩))
    go_ret
    exact ⟨rfl, bt hb1 hb2⟩
  | true =>
    rw [hf] at HF
    have hl := fewF_len hf
    rw [List.length_map] at hl
    by_cases hj : 200 < s.size
    · have hji : (200 : Int) < (s.size : Int) := by omega
      clear hv hf _hs hl
      go_enter Try.func5, Try.ntmps5
      go_wp2_with (first | (go_at_call 17; refine HF.out.mono ?_; rintro e w1 ⟨rfl, hb1⟩) | (go_at_call 11; refine (awake_any _).mono ?_; rintro e w2 ⟨rfl, hb2⟩))
      go_ret
      exact ⟨rfl, bt hb1 hb2⟩
    · have hji : ¬ (200 : Int) < (s.size : Int) := by omega
      have H1 := Lib.hid (fun W (k : Below w.heap.size w W) => add_any v l 0 w.heap.size src now s W (hv.below k (Nat.le_refl _)) k.size (by omega) (by omega))
      have H2 := Lib.hid (fun W (k : Below w.heap.size w W) => xAdd_any v l 0 w.heap.size src now s W (hv.below k (Nat.le_refl _)) k.size (by omega) (by omega))
      obtain ⟨hok, hlen⟩ := addF_ok (l.map Pt.pk) src now s
      generalize addF (l.map Pt.pk) src now s = R at *
      obtain ⟨⟨R, t, b⟩, c⟩ := R
      dsimp only at hok hlen H1 H2
      clear hv hf hl _hs
      have htt : (t.toList == t.toList) = true := beq_self_eq_true _
      have hbb : (b == b) = true := beq_self_eq_true _
      have hcc : (c == c) = true := beq_self_eq_true _
      go_enter Try.func5, Try.ntmps5
      go_wp2_with (go_at_call 17; refine HF.out.mono ?_; rintro e w1 ⟨rfl, hb1⟩)
      refine (H1.out _ hb1).mono ?_
      rintro e w2 ⟨u2, m2, rfl, hm2, hp2, hb2⟩
      have hb12 := bt hb1 hb2
      go_wp2_with fail
      refine (H2.out _ hb12).mono ?_
      rintro e w3 ⟨u3, m3, rfl, hm3, hp3, hb3⟩
      dsimp only at hm2 hm3
      have HS := Lib.hid (sameList_any u2 u3 m2 m3 _ _ _ _ w3 (hm3.trans hm2.symm) (hp2.below hb3 (Nat.le_refl _)) hp3 hb3.size (Nat.le_refl _)
        (by have := congrArg List.length hm2; rw [List.length_map] at this; omega)
        (fun p hp => hok _ (by rw [← hm2]; exact List.mem_map.2 ⟨p, hp, rfl⟩)))
      have HB := Lib.hid (bt hb12 hb3)
      clear hm2 hm3 hp2 hp3 hb1 hb2 hb3 hb12 hlen hok
      go_wp2_with fail
      refine HS.out.mono ?_
      rintro e w4 ⟨rfl, hb4⟩
      go_wp2_with (refine (awake_any _).mono ?_; rintro e w5 ⟨rfl, hb5⟩)
      go_ret
      exact ⟨rfl, bt (bt HB.out hb4) hb5⟩
end Go.Proofs.Ytmjamjadfnbkdaa
