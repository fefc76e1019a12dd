/-
  Fragments: two lists of entries with the same data are told to be the same: the walk.
-/
import Derived.Test.YtmjamjadfnbkdaaFsm
import Derived.Test.YtmjamjadfnbkdaaBas
open Go Go.RowKit Go.Proofs
namespace Go.Proofs.Ytmjamjadfnbkdaa
open Hub

set_option maxHeartbeats 2000000 in
theorem sameList_any (v v' : Value) (l l' : List Pt) (lo N lo' N' : Nat) (w : World) (he : l'.map Pt.pk = l.map Pt.pk) (hv : PtsAt lo N w v l) (hv' : PtsAt lo' N' w v' l') (hN : N ≤ w.heap.size) (hN' : N' ≤ w.heap.size)
    (hl : l.length ≤ 1000) (hs : ∀ p ∈ l, p.pk.hv.length ≤ 1000 ∧ p.pk.dt.length ≤ 1000) :
    Calls Try.prog 20 #[v, v'] w fun e w' => e = .returned (.bool true) ∧ Below w.heap.size w w' := by
  obtain ⟨n, hn⟩ : ∃ n, l.length = n := ⟨_, rfl⟩
  have hn' : l'.length = n := by have := congrArg List.length he; rw [List.length_map, List.length_map] at this; omega
  have HR := Lib.hid (fun w' (k : Below w.heap.size w w') => hv.1.below k hN)
  have HR' := Lib.hid (fun w' (k : Below w.heap.size w w') => hv'.1.below k hN')
  have HSa := Lib.hid (fun k (h : k < l.length) (h' : k < l'.length) w' (t : Below w.heap.size w w') => sameParts_any l[k] l'[k] lo N lo' N' w'
    (by have : (l'.map Pt.pk)[k]'(by rw [List.length_map]; exact h') = (l.map Pt.pk)[k]'(by rw [List.length_map]; exact h) := by simp only [he]
        rw [List.getElem_map, List.getElem_map] at this; exact this)
    ((hv.2.below t hN) _ (List.getElem_mem h)).1 ((hv.2.below t hN) _ (List.getElem_mem h)).2 ((hv'.2.below t hN') _ (List.getElem_mem h')).1 ((hv'.2.below t hN') _ (List.getElem_mem h')).2
    (Nat.le_trans hN t.size) (Nat.le_trans hN' t.size) (hs _ (List.getElem_mem h)).1 (hs _ (List.getElem_mem h)).2)
  have HPk := Lib.hid (fun k (h : k < l.length) (h' : k < l'.length) => (show l'[k].pk = l[k].pk from by
    have : (l'.map Pt.pk)[k]'(by rw [List.length_map]; exact h') = (l.map Pt.pk)[k]'(by rw [List.length_map]; exact h) := by simp only [he]
    rw [List.getElem_map, List.getElem_map] at this; exact this))
  have HNN := Lib.hid (And.intro hN hN')
  obtain ⟨⟨a, cap, rfl, -⟩, -⟩ := hv
  obtain ⟨⟨a', cap', rfl, -⟩, -⟩ := hv'
  have Hn := Lib.hid hn
  have Hn' := Lib.hid hn'
  rw [hn] at HR hl ⊢
  rw [hn'] at HR' ⊢
  clear hn hn' he hs hN hN'
  have hne : ((n : Int) != (n : Int)) = false := by simp
  go_enter Try.func20, Try.ntmps20
  go_wp2_with fail
  go_loopw [13] (fun i wr => ∃ k : Nat, k ≤ n ∧ i = .int .i64 k ∧ Below w.heap.size w wr) (fun i _ => n - (intOf i).toNat)
  case atStart => exact ⟨0, Nat.zero_le _, rfl, Below.refl _ _⟩
  case round =>
    obtain ⟨k, hk, rfl, hb⟩ := hrel
    by_cases hlt : k < n
    · have h1 : k < l.length := by rw [Hn.out]; exact hlt
      have h2 : k < l'.length := by rw [Hn'.out]; exact hlt
      have hki : (k : Int) < (n : Int) := by omega
      obtain ⟨b1, o1, rfl, _, hb1, hsix⟩ := (HR.out wr hb).cells h1
      obtain ⟨b2, o2, rfl, _, hb2, hsix'⟩ := (HR'.out wr hb).cells h2
      have hpk := HPk.out k h1 h2
      have HSk := Lib.hid (fun w' (t : Below wr.heap.size wr w') => HSa.out k h1 h2 w' (bt hb t))
      have HC := Lib.hid (fun w' (t : Below wr.heap.size wr w') => hsix.below t (Nat.lt_of_lt_of_le hb1 (Nat.le_trans HNN.out.1 hb.size)))
      have HC' := Lib.hid (fun w' (t : Below wr.heap.size wr w') => hsix'.below t (Nat.lt_of_lt_of_le hb2 (Nat.le_trans HNN.out.2 hb.size)))
      obtain ⟨⟨⟨xa, xn, xc, ex⟩, ya, yn, yc, ey⟩, -⟩ := hsix
      obtain ⟨⟨⟨xa', xn', xc', ex'⟩, ya', yn', yc', ey'⟩, -⟩ := hsix'
      have Hb := Lib.hid hb
      clear hb
      generalize l[k] = p at *
      generalize l'[k] = q at *
      obtain ⟨p, vh, vd⟩ := p
      obtain ⟨q, uh, ud⟩ := q
      dsimp only at hpk ex ey ex' ey'
      subst hpk ex ey ex' ey'
      have HSP := HSk
      unfold ptv at HSP
      dsimp only at HSP
      clear HSk h1 h2
      rename Pk => p
      go_wp2_with fail
      refine wp_region_class (fun w' => Below wr.heap.size wr w') (by kernel_rfl) (by kernel_rfl) (Below.refl _ _).drew ?_
      refine BigFrame.wpQuiet_want rfl (fun K hK => ?_)
      refine quiet_val (.slice (some ⟨b1, o1, none⟩) n cap) (fun w' hC' => by go_simp) ?_
      go_simp
      refine hK _ ?_
      clear hK K
      refine BigFrame.wpQuiet_want rfl (fun K hK => ?_)
      refine quiet_val (.int .i64 k) (fun w' hC' => by go_simp) ?_
      go_simp
      refine hK _ ?_
      clear hK K
      refine BigFrame.wpQuiet_want rfl (fun K hK => ?_)
      refine quiet_val (.pointer (some ⟨b1, o1 + k * 6, none⟩)) (fun w' hC' => by go_simp) ?_
      go_simp
      refine hK _ ?_
      clear hK K
      refine BigFrame.wpQuiet_want rfl (fun K hK => ?_)
      refine quiet_val (.agg #[.int .i64 p.src, .int .i64 p.id, .int .i64 p.cnt, .int .i64 p.since, .slice xa xn xc, .slice ya yn yc]) (fun w' hC' => by obtain ⟨-, c0, c1, c2, c3, c4, c5⟩ := HC.out w' hC'; dsimp only at c0 c1 c2 c3 c4 c5; go_simp) ?_
      go_simp
      refine hK _ ?_
      clear hK K
      refine BigFrame.wpQuiet_want rfl (fun K hK => ?_)
      refine quiet_val (.slice (some ⟨b2, o2, none⟩) n cap') (fun w' hC' => by go_simp) ?_
      go_simp
      refine hK _ ?_
      clear hK K
      refine BigFrame.wpQuiet_want rfl (fun K hK => ?_)
      refine quiet_val (.int .i64 k) (fun w' hC' => by go_simp) ?_
      go_simp
      refine hK _ ?_
      clear hK K
      refine BigFrame.wpQuiet_want rfl (fun K hK => ?_)
      refine quiet_val (.pointer (some ⟨b2, o2 + k * 6, none⟩)) (fun w' hC' => by go_simp) ?_
      go_simp
      refine hK _ ?_
      clear hK K
      refine BigFrame.wpQuiet_want rfl (fun K hK => ?_)
      refine quiet_val (.agg #[.int .i64 p.src, .int .i64 p.id, .int .i64 p.cnt, .int .i64 p.since, .slice xa' xn' xc', .slice ya' yn' yc']) (fun w' hC' => by obtain ⟨-, c0, c1, c2, c3, c4, c5⟩ := HC'.out w' hC'; dsimp only at c0 c1 c2 c3 c4 c5; go_simp) ?_
      go_simp
      refine hK _ ?_
      clear hK K
      refine BigFrame.wpQuiet_want rfl (fun K hK => ?_)
      refine quiet_enter (.bool true) 35 #[.agg #[.int .i64 p.src, .int .i64 p.id, .int .i64 p.cnt, .int .i64 p.since, .slice xa xn xc, .slice ya yn yc], .agg #[.int .i64 p.src, .int .i64 p.id, .int .i64 p.cnt, .int .i64 p.since, .slice xa' xn' xc', .slice ya' yn' yc']] (fun w' hC' => by go_simp) (fun w' hC' => (HSP.out w' hC').mono fun e w'' ⟨he, hb⟩ => ⟨he, bt hC' hb⟩) ?_
      go_simp
      refine hK _ ?_
      clear hK K
      refine BigFrame.wpQuiet_want rfl (fun K hK => ?_)
      refine quiet_val (.bool false) (fun w' hC' => by go_simp) ?_
      go_simp
      refine hK _ ?_
      clear hK K
      refine wpQuiet_nil ?_
      intro w4 hC'
      go_wp2_with fail
      exact ⟨⟨k + 1, by omega, by go_num, bt Hb.out hC'⟩, by simp [intOf]; omega⟩
    · obtain rfl : k = n := by omega
      have Hb := Lib.hid hb
      clear hb
      go_wp2_with fail
      go_ret
      exact ⟨rfl, Hb.out⟩
end Go.Proofs.Ytmjamjadfnbkdaa
