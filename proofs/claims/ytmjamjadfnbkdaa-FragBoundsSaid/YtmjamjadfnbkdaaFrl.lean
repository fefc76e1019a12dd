/-
  Fragments: the walk of what brings a list into order, the reference's.
-/
import Derived.Test.YtmjamjadfnbkdaaFrk
import Derived.Test.YtmjamjadfnbkdaaFrg
import Derived.Test.YtmjamjadfnbkdaaBas
open Go Go.RowKit Go.Proofs
namespace Go.Proofs.Ytmjamjadfnbkdaa
theorem quiet_skipK {P : Program} {ops : Array Oper} {C : World → Prop} {a : Act} {o : Oper} {rest : List Oper} {Q : Act → Prop} (hw : Region.wanted o (yielded ops a.tmps) = false)
    (h : ∀ K : Act → Prop, (∀ a, wpQuiet P ops C Q rest a → K a) → K (a.put o.dst undef)) : wpQuiet P ops C Q (o :: rest) a :=
  BigFrame.wpQuiet_skip hw (h _ fun _ x => x)
open Hub

set_option maxHeartbeats 1000000 in
theorem xOrder_any (v : Value) (l : List Pt) (lo N : Nat) (w : World) (hv : PtsAt lo N w v l) (hN : N ≤ w.heap.size) (hl : l.length ≤ 1000) :
    Calls Try.prog 30 #[v] w fun e w' => ∃ u l', e = .returned u ∧ l'.map Pt.pk = orderF (l.map Pt.pk) ∧ OwnQ w' w.heap.size u l' ∧ Ents w' w.heap.size l' ∧ Below w.heap.size w w' := by
  obtain ⟨i0, hi, hz0, hz1, hz2⟩ := info_parts pt_info
  obtain ⟨n, hn⟩ : ∃ n, l.length = n := ⟨_, rfl⟩
  have HR := Lib.hid (fun w' (k : Below w.heap.size w w') => hv.1.below k hN)
  have HD := Lib.hid (fun w' (k : Below w.heap.size w w') p hp => (hv.2.below k hN) p hp)
  have HVal := Lib.hid (fun p (hp : p ∈ l) w' (k : Below w.heap.size w w') => xValid_any p lo N w' ((hv.2.below k hN) p hp).1 ((hv.2.below k hN) p hp).2 (Nat.le_trans hN k.size))
  have HOwn := Lib.hid (fun p (hp : p ∈ l) m w' (k : Below w.heap.size w w') => copy_any p lo N m w' ((hv.2.below k hN) p hp).1 ((hv.2.below k hN) p hp).2 (Nat.le_trans hN k.size))
  have HStep := Lib.hid (fun k (hk : k < l.length) => orderAll_take (l.map Pt.pk) k (by rw [List.length_map]; exact hk))
  have HAll := Lib.hid (show orderAll ((l.map Pt.pk).take n) = orderAll (l.map Pt.pk) by rw [List.take_of_length_le (by rw [List.length_map]; omega)])
  have HLen := Lib.hid (fun k => Nat.le_trans (orderAll_len ((l.map Pt.pk).take k)) (List.length_take_le _ _))
  have HOF := Lib.hid (show orderF (l.map Pt.pk) = (orderAll (l.map Pt.pk)).drop ((orderAll (l.map Pt.pk)).length - 8) from rfl)
  generalize orderF (l.map Pt.pk) = F at *
  obtain ⟨⟨a, cap, rfl, -⟩, -⟩ := hv
  have Hn := Lib.hid hn
  rw [hn] at HR hl ⊢
  clear hn
  go_enter Try.func30, Try.ntmps30
  go_wp2_with fail
  go_loopw [3, 7] (fun u i wr => ∃ (k : Nat) (m : List Pt), k ≤ n ∧ i = .int .i64 k ∧ m.map Pt.pk = orderAll ((l.map Pt.pk).take k) ∧ OwnP wr w.heap.size u m ∧ Ents wr w.heap.size m ∧ Below w.heap.size w wr) (fun _ i _ => n - (intOf i).toNat)
  case atStart => exact ⟨0, [], Nat.zero_le _, rfl, rfl, OwnP.nil _ _, Ents.nil _ _, Below.refl _ _⟩
  case round =>
    obtain ⟨k, m, hk, rfl, hm, hP, hE, hb⟩ := hrel
    by_cases hlt : k < n
    · have hkl : k < l.length := by rw [Hn.out]; exact hlt
      have hki : (k : Int) < (n : Int) := by omega
      obtain ⟨bk, off, rfl, _, hbk, ⟨⟨xa, xn, xc, hvh⟩, ya, yn, yc, hvd⟩, c0, c1, c2, c3, c4, c5⟩ := (HR.out wr hb).cells hkl
      have hst := HStep.out k hkl
      rw [List.getElem_map] at hst
      have HVk := Lib.hid (HVal.out l[k] (List.getElem_mem hkl))
      have HOk := Lib.hid (HOwn.out l[k] (List.getElem_mem hkl))
      have hml : m.length ≤ k := by have := HLen.out k; rw [← hm, List.length_map] at this; exact this
      have Hm := Lib.hid hm
      have Hml := Lib.hid hml
      have Hst := Lib.hid hst
      have HP := Lib.hid hP
      have HE := Lib.hid hE
      have Hb := Lib.hid hb
      clear hm hml hst hP hE hb
      generalize l[k] = p at *
      obtain ⟨p, vh, vd⟩ := p
      dsimp only at hvh hvd c0 c1 c2 c3 c4 c5 Hst
      subst hvh hvd
      have HC := Lib.hid (fun w' (t : Below wr.heap.size wr w') => SixAt.below (show SixAt wr bk (off + k * 6) ⟨p, .slice xa xn xc, .slice ya yn yc⟩ from ⟨⟨⟨_, _, _, rfl⟩, _, _, _, rfl⟩, c0, c1, c2, c3, c4, c5⟩) t (Nat.lt_of_lt_of_le hbk (Nat.le_trans hN Hb.out.size)))
      have HV1 := Lib.hid (fun w' (t : Below wr.heap.size wr w') => HVk.out w' (bt Hb.out t))
      have HF1 := Lib.hid (fun w' (t : Below wr.heap.size wr w') => xFind_any u3 m w.heap.size w'.heap.size p.src p.id w' ((HP.out.below t (Nat.le_refl _)).rows (HE.out.below t (Nat.le_refl _)).shp) (Nat.le_refl _) (by have := Hml.out; omega))
      have HO1 := Lib.hid (fun q w' (t : Below wr.heap.size wr w') => HOk.out q w' (bt Hb.out t))
      clear HVk HOk c0 c1 c2 c3 c4 c5
      rw [Hm.out] at HF1
      unfold ptv at HV1 HO1
      dsimp only at HV1 HO1
      cases hval : validF p with
      | false =>
        rw [hval] at HV1
        have Hs := Lib.hid (orderStep_no (o := orderAll (List.take k (List.map Pt.pk l))) hval)
        clear hval
        go_wp2_with fail
        refine wp_region_class (fun w' => Below wr.heap.size wr w') (by kernel_rfl) (by kernel_rfl) (Below.refl _ _).drew ?_
        refine BigFrame.wpQuiet_want rfl (fun K hK => ?_)
        refine quiet_val (.slice (some ⟨bk, off, none⟩) n cap) (fun w' hC' => by go_simp) ?_
        go_simp
        refine hK _ ?_
        clear hK K
        refine BigFrame.wpQuiet_want rfl (fun K hK => ?_)
        refine quiet_val (.int .i64 k) (fun w' hC' => by go_simp) ?_
        go_simp
        refine hK _ ?_
        clear hK K
        refine BigFrame.wpQuiet_want rfl (fun K hK => ?_)
        refine quiet_val (.pointer (some ⟨bk, off + k * 6, none⟩)) (fun w' hC' => by go_simp) ?_
        go_simp
        refine hK _ ?_
        clear hK K
        refine BigFrame.wpQuiet_want rfl (fun K hK => ?_)
        refine quiet_val (.agg #[.int .i64 p.src, .int .i64 p.id, .int .i64 p.cnt, .int .i64 p.since, .slice xa xn xc, .slice ya yn yc]) (fun w' hC' => by obtain ⟨-, c0, c1, c2, c3, c4, c5⟩ := HC.out w' hC'; go_simp) ?_
        go_simp
        refine hK _ ?_
        clear hK K
        refine BigFrame.wpQuiet_want rfl (fun K hK => ?_)
        refine quiet_enter (.bool false) 41 #[.agg #[.int .i64 p.src, .int .i64 p.id, .int .i64 p.cnt, .int .i64 p.since, .slice xa xn xc, .slice ya yn yc]] (fun w' hC' => by go_simp) (fun w' hC' => (HV1.out w' hC').mono fun e w'' ⟨he, hb⟩ => ⟨he, bt hC' hb⟩) ?_
        go_simp
        refine hK _ ?_
        clear hK K
        refine BigFrame.wpQuiet_want rfl (fun K hK => ?_)
        refine quiet_val (.bool false) (fun w' hC' => by go_simp) ?_
        go_simp
        refine hK _ ?_
        clear hK K
        go_big_quiet_skip
        go_big_quiet_skip
        go_big_quiet_skip
        go_big_quiet_skip
        go_big_quiet_skip
        go_big_quiet_skip
        go_big_quiet_skip
        go_big_quiet_skip
        go_big_quiet_skip
        go_big_quiet_skip
        go_big_quiet_skip
        go_big_quiet_skip
        go_big_quiet_skip
        refine BigFrame.wpQuiet_want rfl (fun K hK => ?_)
        refine quiet_val (.bool false) (fun w' hC' => by go_simp) ?_
        go_simp
        refine hK _ ?_
        clear hK K
        refine wpQuiet_nil ?_
        intro w4 hC'
        go_wp2_with fail
        exact ⟨⟨k + 1, m, by omega, by go_num, by rw [Hst.out, Hs.out, Hm.out], HP.out.below hC' (Nat.le_refl _), HE.out.below hC' (Nat.le_refl _), bt Hb.out hC'⟩, by simp [intOf]; omega⟩
      | true =>
        rw [hval] at HV1
        by_cases hf : findF (orderAll (List.take k (List.map Pt.pk l))) p.src p.id < 0
        · have Hs := Lib.hid (orderStep_new hval hf)
          obtain ⟨nn, n1, n2, n3, n4, -⟩ := validF_len hval
          have HO2 := Lib.hid (fun w' t => HO1.out nn w' t (by omega) n2 n3 n4)
          have Hne := Lib.hid (show p.hv ≠ [] ∧ p.dt ≠ [] from ⟨fun e => by rw [e] at n3; simp at n3; omega, fun e => by rw [e] at n4; simp at n4; omega⟩)
          clear hval n1 n2 n3 n4 HO1
          generalize findF (orderAll (List.take k (List.map Pt.pk l))) p.src p.id = fx at *
          have df : decide (fx < 0) = true := decide_eq_true hf
          clear hf
          go_wp2_with fail
          refine wp_region_class (fun w' => Below wr.heap.size wr w') (by kernel_rfl) (by kernel_rfl) (Below.refl _ _).drew ?_
          refine BigFrame.wpQuiet_want rfl (fun K hK => ?_)
          refine quiet_val (.slice (some ⟨bk, off, none⟩) n cap) (fun w' hC' => by go_simp) ?_
          go_simp
          refine hK _ ?_
          clear hK K
          refine BigFrame.wpQuiet_want rfl (fun K hK => ?_)
          refine quiet_val (.int .i64 k) (fun w' hC' => by go_simp) ?_
          go_simp
          refine hK _ ?_
          clear hK K
          refine BigFrame.wpQuiet_want rfl (fun K hK => ?_)
          refine quiet_val (.pointer (some ⟨bk, off + k * 6, none⟩)) (fun w' hC' => by go_simp) ?_
          go_simp
          refine hK _ ?_
          clear hK K
          refine BigFrame.wpQuiet_want rfl (fun K hK => ?_)
          refine quiet_val (.agg #[.int .i64 p.src, .int .i64 p.id, .int .i64 p.cnt, .int .i64 p.since, .slice xa xn xc, .slice ya yn yc]) (fun w' hC' => by obtain ⟨-, c0, c1, c2, c3, c4, c5⟩ := HC.out w' hC'; go_simp) ?_
          go_simp
          refine hK _ ?_
          clear hK K
          refine BigFrame.wpQuiet_want rfl (fun K hK => ?_)
          refine quiet_enter (.bool true) 41 #[.agg #[.int .i64 p.src, .int .i64 p.id, .int .i64 p.cnt, .int .i64 p.since, .slice xa xn xc, .slice ya yn yc]] (fun w' hC' => by go_simp) (fun w' hC' => (HV1.out w' hC').mono fun e w'' ⟨he, hb⟩ => ⟨he, bt hC' hb⟩) ?_
          go_simp
          refine hK _ ?_
          clear hK K
          refine BigFrame.wpQuiet_want rfl (fun K hK => ?_)
          refine quiet_val (.bool true) (fun w' hC' => by go_simp) ?_
          go_simp
          refine hK _ ?_
          clear hK K
          refine BigFrame.wpQuiet_want rfl (fun K hK => ?_)
          refine quiet_val (u3) (fun w' hC' => by go_simp) ?_
          go_simp
          refine hK _ ?_
          clear hK K
          refine BigFrame.wpQuiet_want rfl (fun K hK => ?_)
          refine quiet_val (.slice (some ⟨bk, off, none⟩) n cap) (fun w' hC' => by go_simp) ?_
          go_simp
          refine hK _ ?_
          clear hK K
          refine BigFrame.wpQuiet_want rfl (fun K hK => ?_)
          refine quiet_val (.int .i64 k) (fun w' hC' => by go_simp) ?_
          go_simp
          refine hK _ ?_
          clear hK K
          refine BigFrame.wpQuiet_want rfl (fun K hK => ?_)
          refine quiet_val (.pointer (some ⟨bk, off + k * 6, none⟩)) (fun w' hC' => by go_simp) ?_
          go_simp
          refine hK _ ?_
          clear hK K
          refine BigFrame.wpQuiet_want rfl (fun K hK => ?_)
          refine quiet_val (.pointer (some ⟨bk, off + k * 6, none⟩)) (fun w' hC' => by go_simp) ?_
          go_simp
          refine hK _ ?_
          clear hK K
          refine BigFrame.wpQuiet_want rfl (fun K hK => ?_)
          refine quiet_val (.int .i64 p.src) (fun w' hC' => by obtain ⟨-, c0, c1, c2, c3, c4, c5⟩ := HC.out w' hC'; go_simp) ?_
          go_simp
          refine hK _ ?_
          clear hK K
          refine BigFrame.wpQuiet_want rfl (fun K hK => ?_)
          refine quiet_val (.slice (some ⟨bk, off, none⟩) n cap) (fun w' hC' => by go_simp) ?_
          go_simp
          refine hK _ ?_
          clear hK K
          refine BigFrame.wpQuiet_want rfl (fun K hK => ?_)
          refine quiet_val (.int .i64 k) (fun w' hC' => by go_simp) ?_
          go_simp
          refine hK _ ?_
          clear hK K
          refine BigFrame.wpQuiet_want rfl (fun K hK => ?_)
          refine quiet_val (.pointer (some ⟨bk, off + k * 6, none⟩)) (fun w' hC' => by go_simp) ?_
          go_simp
          refine hK _ ?_
          clear hK K
          refine BigFrame.wpQuiet_want rfl (fun K hK => ?_)
          refine quiet_val (.pointer (some ⟨bk, off + k * 6 + 1, none⟩)) (fun w' hC' => by go_simp) ?_
          go_simp
          refine hK _ ?_
          clear hK K
          refine BigFrame.wpQuiet_want rfl (fun K hK => ?_)
          refine quiet_val (.int .i64 p.id) (fun w' hC' => by obtain ⟨-, c0, c1, c2, c3, c4, c5⟩ := HC.out w' hC'; go_simp) ?_
          go_simp
          refine hK _ ?_
          clear hK K
          refine BigFrame.wpQuiet_want rfl (fun K hK => ?_)
          refine quiet_enter (.int .i64 fx) 31 #[u3, .int .i64 p.src, .int .i64 p.id] (fun w' hC' => by go_simp) (fun w' hC' => (HF1.out w' hC').mono fun e w'' ⟨he, hb⟩ => ⟨he, bt hC' hb⟩) ?_
          go_simp
          refine hK _ ?_
          clear hK K
          refine BigFrame.wpQuiet_want rfl (fun K hK => ?_)
          refine quiet_val (.bool true) (fun w' hC' => by go_simp) ?_
          go_simp
          refine hK _ ?_
          clear hK K
          refine BigFrame.wpQuiet_want rfl (fun K hK => ?_)
          refine quiet_val (.bool true) (fun w' hC' => by go_simp) ?_
          go_simp
          refine hK _ ?_
          clear hK K
          refine wpQuiet_nil ?_
          intro w4 hC'
          obtain ⟨-, c0, c1, c2, c3, c4, c5⟩ := HC.out w4 hC'
          dsimp only at c0 c1 c2 c3 c4 c5
          go_wp2_with fail
          refine (HO2.out w4 hC').mono ?_
          rintro e w5 ⟨qh, qd, rfl, hqT, hqS, hb4⟩
          have hEq : Ent w5 w4.heap.size ⟨p, qh, qd⟩ := ⟨hqT, hqS, Hne.out⟩
          have hE3 := HE.out.below hC' (Nat.le_refl _)
          have hP3 := HP.out.below hC' (Nat.le_refl _)
          have hk3 := bt Hb.out hC'
          have hE4 : Ents w5 w.heap.size (m ++ [⟨p, qh, qd⟩]) := hE3.snoc hb4 hEq hk3.size
          have hP4 := hP3.below hb4 (Nat.le_refl _)
          have hk4 := bt hk3 hb4
          have hshp := hEq.shp
          have kB := below_box w5 (.cells #[.int .i64 p.src, .int .i64 p.id, .int .i64 p.cnt, .int .i64 p.since, qh, qd] 44)
          have HPB := Lib.hid (hP4.alloc (.cells #[.int .i64 p.src, .int .i64 p.id, .int .i64 p.cnt, .int .i64 p.since, qh, qd] 44))
          have HEB := Lib.hid (hE4.below kB (Nat.le_refl _))
          have HKB := Lib.hid (bt hk4 kB)
          have HOne := Lib.hid (one6 ⟨p, qh, qd⟩ hshp)
          obtain ⟨⟨za, zn, zc, e1⟩, zb, zm, zd, e2⟩ := hshp
          dsimp only at e1 e2
          subst e1 e2
          clear hEq hE3 hP3 hk3 hE4 hP4 hk4 kB hqT hqS hb4 hC' c0 c1 c2 c3 c4 c5 df
          go_wp2_with (at_builtin; refine wpList_append_own _ rfl _ _ 31 rfl w.heap.size 44 i0 (.agg #[.int .i64 0, .int .i64 0, .int .i64 0, .int .i64 0, .slice none 0 0, .slice none 0 0]) 6 80 Try.underlying31 hi hz0 hz1 hz2 rfl (by decide) _ _ _ rfl HPB.out ⟨w5.heap.size, 0, none⟩ 1 1 (pcells ⟨p, .slice za zn zc, .slice zb zm zd⟩) rfl rfl ?c1 ?c2 ?c3 ?c4 ?c5 ?_)
          try case c1 => exact news6 w5 ⟨p, .slice za zn zc, .slice zb zm zd⟩ _ _ rfl
          try case c2 => exact HOne.out
          try case c3 => have := Hml.out; unfold maxLen; omega
          try case c4 => have := Hml.out; omega
          try case c5 => have := HKB.out.size; exact this
          intro v' w6 hown5 hgrow5 _
          have hP5 : OwnP w6 w.heap.size v' (m ++ [⟨p, .slice za zn zc, .slice zb zm zd⟩]) := by
            unfold OwnP
            rw [List.length_append, List.flatMap_append, List.flatMap_cons, List.flatMap_nil, List.append_nil]; exact hown5
          have hE5 := HEB.out.grown HPB.out hgrow5
          have hk5 := HKB.out.grown hgrow5 HKB.out.size (fun g hg => (World.ownsRow.lt HPB.out g hg).1)
          have HP5 := Lib.hid hP5
          have HE5 := Lib.hid hE5
          have HK5 := Lib.hid hk5
          clear hP5 hE5 hk5 hown5 hgrow5
          go_wp2_with fail
          exact ⟨⟨k + 1, m ++ [⟨p, .slice za zn zc, .slice zb zm zd⟩], by omega, by go_num, by rw [Hst.out, Hs.out, List.map_append, Hm.out]; rfl, HP5.out, HE5.out, HK5.out⟩, by simp [intOf]; omega⟩
        · have Hs := Lib.hid (orderStep_old hf)
          clear hval HO1
          generalize findF (orderAll (List.take k (List.map Pt.pk l))) p.src p.id = fx at *
          have df : decide (fx < 0) = false := decide_eq_false hf
          clear hf
          go_wp2_with fail
          refine wp_region_class (fun w' => Below wr.heap.size wr w') (by kernel_rfl) (by kernel_rfl) (Below.refl _ _).drew ?_
          refine BigFrame.wpQuiet_want rfl (fun K hK => ?_)
          refine quiet_val (.slice (some ⟨bk, off, none⟩) n cap) (fun w' hC' => by go_simp) ?_
          go_simp
          refine hK _ ?_
          clear hK K
          refine BigFrame.wpQuiet_want rfl (fun K hK => ?_)
          refine quiet_val (.int .i64 k) (fun w' hC' => by go_simp) ?_
          go_simp
          refine hK _ ?_
          clear hK K
          refine BigFrame.wpQuiet_want rfl (fun K hK => ?_)
          refine quiet_val (.pointer (some ⟨bk, off + k * 6, none⟩)) (fun w' hC' => by go_simp) ?_
          go_simp
          refine hK _ ?_
          clear hK K
          refine BigFrame.wpQuiet_want rfl (fun K hK => ?_)
          refine quiet_val (.agg #[.int .i64 p.src, .int .i64 p.id, .int .i64 p.cnt, .int .i64 p.since, .slice xa xn xc, .slice ya yn yc]) (fun w' hC' => by obtain ⟨-, c0, c1, c2, c3, c4, c5⟩ := HC.out w' hC'; go_simp) ?_
          go_simp
          refine hK _ ?_
          clear hK K
          refine BigFrame.wpQuiet_want rfl (fun K hK => ?_)
          refine quiet_enter (.bool true) 41 #[.agg #[.int .i64 p.src, .int .i64 p.id, .int .i64 p.cnt, .int .i64 p.since, .slice xa xn xc, .slice ya yn yc]] (fun w' hC' => by go_simp) (fun w' hC' => (HV1.out w' hC').mono fun e w'' ⟨he, hb⟩ => ⟨he, bt hC' hb⟩) ?_
          go_simp
          refine hK _ ?_
          clear hK K
          refine BigFrame.wpQuiet_want rfl (fun K hK => ?_)
          refine quiet_val (.bool true) (fun w' hC' => by go_simp) ?_
          go_simp
          refine hK _ ?_
          clear hK K
          refine BigFrame.wpQuiet_want rfl (fun K hK => ?_)
          refine quiet_val (u3) (fun w' hC' => by go_simp) ?_
          go_simp
          refine hK _ ?_
          clear hK K
          refine BigFrame.wpQuiet_want rfl (fun K hK => ?_)
          refine quiet_val (.slice (some ⟨bk, off, none⟩) n cap) (fun w' hC' => by go_simp) ?_
          go_simp
          refine hK _ ?_
          clear hK K
          refine BigFrame.wpQuiet_want rfl (fun K hK => ?_)
          refine quiet_val (.int .i64 k) (fun w' hC' => by go_simp) ?_
          go_simp
          refine hK _ ?_
          clear hK K
          refine BigFrame.wpQuiet_want rfl (fun K hK => ?_)
          refine quiet_val (.pointer (some ⟨bk, off + k * 6, none⟩)) (fun w' hC' => by go_simp) ?_
          go_simp
          refine hK _ ?_
          clear hK K
          refine BigFrame.wpQuiet_want rfl (fun K hK => ?_)
          refine quiet_val (.pointer (some ⟨bk, off + k * 6, none⟩)) (fun w' hC' => by go_simp) ?_
          go_simp
          refine hK _ ?_
          clear hK K
          refine BigFrame.wpQuiet_want rfl (fun K hK => ?_)
          refine quiet_val (.int .i64 p.src) (fun w' hC' => by obtain ⟨-, c0, c1, c2, c3, c4, c5⟩ := HC.out w' hC'; go_simp) ?_
          go_simp
          refine hK _ ?_
          clear hK K
          refine BigFrame.wpQuiet_want rfl (fun K hK => ?_)
          refine quiet_val (.slice (some ⟨bk, off, none⟩) n cap) (fun w' hC' => by go_simp) ?_
          go_simp
          refine hK _ ?_
          clear hK K
          refine BigFrame.wpQuiet_want rfl (fun K hK => ?_)
          refine quiet_val (.int .i64 k) (fun w' hC' => by go_simp) ?_
          go_simp
          refine hK _ ?_
          clear hK K
          refine BigFrame.wpQuiet_want rfl (fun K hK => ?_)
          refine quiet_val (.pointer (some ⟨bk, off + k * 6, none⟩)) (fun w' hC' => by go_simp) ?_
          go_simp
          refine hK _ ?_
          clear hK K
          refine BigFrame.wpQuiet_want rfl (fun K hK => ?_)
          refine quiet_val (.pointer (some ⟨bk, off + k * 6 + 1, none⟩)) (fun w' hC' => by go_simp) ?_
          go_simp
          refine hK _ ?_
          clear hK K
          refine BigFrame.wpQuiet_want rfl (fun K hK => ?_)
          refine quiet_val (.int .i64 p.id) (fun w' hC' => by obtain ⟨-, c0, c1, c2, c3, c4, c5⟩ := HC.out w' hC'; go_simp) ?_
          go_simp
          refine hK _ ?_
          clear hK K
          refine BigFrame.wpQuiet_want rfl (fun K hK => ?_)
          refine quiet_enter (.int .i64 fx) 31 #[u3, .int .i64 p.src, .int .i64 p.id] (fun w' hC' => by go_simp) (fun w' hC' => (HF1.out w' hC').mono fun e w'' ⟨he, hb⟩ => ⟨he, bt hC' hb⟩) ?_
          go_simp
          refine hK _ ?_
          clear hK K
          refine BigFrame.wpQuiet_want rfl (fun K hK => ?_)
          refine quiet_val (.bool false) (fun w' hC' => by go_simp) ?_
          go_simp
          refine hK _ ?_
          clear hK K
          refine BigFrame.wpQuiet_want rfl (fun K hK => ?_)
          refine quiet_val (.bool false) (fun w' hC' => by go_simp) ?_
          go_simp
          refine hK _ ?_
          clear hK K
          refine wpQuiet_nil ?_
          intro w4 hC'
          go_wp2_with fail
          exact ⟨⟨k + 1, m, by omega, by go_num, by rw [Hst.out, Hs.out, Hm.out], HP.out.below hC' (Nat.le_refl _), HE.out.below hC' (Nat.le_refl _), bt Hb.out hC'⟩, by simp [intOf]; omega⟩
    · obtain rfl : k = n := by omega
      have hml : m.length ≤ k := by have := HLen.out k; rw [← hm, List.length_map] at this; exact this
      have hlen : (orderAll (l.map Pt.pk)).length = m.length := by rw [← HAll.out, ← hm, List.length_map]
      have hF : F = (m.map Pt.pk).drop (m.length - 8) := by rw [HOF.out, hlen, hm, HAll.out]
      have HF := Lib.hid hF
      have HP := Lib.hid hP
      have HE := Lib.hid hE
      have Hb := Lib.hid hb
      have hw8 : wrap64 ((m.length : Int) - 8) = (m.length : Int) - 8 := IntWalk.wrap64_in _ ⟨by omega, by omega⟩
      clear hF hlen hm hE hb
      rcases hP.shape with ⟨rfl, h0⟩ | ⟨g, cp, rfl, hg1, hg2, hcp⟩
      · clear hP hw8 hml
        obtain rfl := List.length_eq_zero_iff.1 h0
        have hmx : ¬ (8 : Int) < 0 := by omega
        clear h0
        go_wp2_with fail
        go_ret
        first | exact ⟨_, _, rfl, HF.out.symm, .inl HP.out, HE.out, Hb.out⟩ | exact ⟨_, rfl, _, HF.out.symm, .inl HP.out, HE.out, Hb.out⟩
      · obtain ⟨mm, hmm⟩ : ∃ q, m.length = q := ⟨_, rfl⟩
        rw [hmm] at HP HF hw8 hcp hml ⊢
        have Hmm := Lib.hid hmm
        clear hP hmm
        by_cases h8 : 8 < mm
        · have hmx : (8 : Int) < (mm : Int) := by omega
          have hms : (mm : Int) - 8 = ((mm - 8 : Nat) : Int) := by omega
          rw [hms] at hw8
          have hd8 : mm - (mm - 8) = 8 := by omega
          have hle : ((mm - 8 : Nat) : Int) ≤ (mm : Int) := by omega
          have hcl : (mm : Int) ≤ (cp : Int) := by omega
          have HQ := Lib.hid (OwnP.last HP.out Hmm.out h8 hcp HE.out.shp)
          have HS := Lib.hid (HE.out.sub (List.drop_sublist (mm - 8) m))
          rw [← List.map_drop] at HF
          go_wp2_with fail
          go_ret
          first | exact ⟨_, _, rfl, HF.out.symm, HQ.out, HS.out, Hb.out⟩ | exact ⟨_, rfl, _, HF.out.symm, HQ.out, HS.out, Hb.out⟩
        · have hmx : ¬ (8 : Int) < (mm : Int) := by omega
          have h00 : mm - 8 = 0 := by omega
          rw [h00, List.drop_zero] at HF
          go_wp2_with fail
          go_ret
          first | exact ⟨_, _, rfl, HF.out.symm, .inl HP.out, HE.out, Hb.out⟩ | exact ⟨_, rfl, _, HF.out.symm, .inl HP.out, HE.out, Hb.out⟩
end Go.Proofs.Ytmjamjadfnbkdaa
