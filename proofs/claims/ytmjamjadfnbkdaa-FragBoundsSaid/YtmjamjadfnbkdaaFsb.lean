/-
  Fragments: the walk of what leaves an entry out, the reference's.
-/
import Derived.Test.YtmjamjadfnbkdaaFsa
open Go Go.RowKit Go.Proofs
namespace Go.Proofs.Ytmjamjadfnbkdaa
open Hub

set_option maxHeartbeats 2000000 in
theorem remove_any (v : Value) (l : List Pt) (i base : Nat) (w : World) (hQ : OwnQ w base v l) (hE : Ents w base l) (_hi : i < l.length) (hl : l.length ≤ 1000) (hB : base ≤ w.heap.size) :
    Calls Try.prog 32 #[v, .int .i64 i] w fun e w' => ∃ u, e = .returned u ∧ OwnP w' base u (l.eraseIdx i) ∧ Ents w' base (l.eraseIdx i) ∧ Below w.heap.size w w' := by
  obtain ⟨i0, hi0, hz0, hz1, hz2⟩ := info_parts pt_info
  have HShp := Lib.hid hE.shp
  have HR := Lib.hid (fun w' (k : Below w.heap.size w w') => (hQ.rows hE.shp).below k (Nat.le_refl _))
  have HSub := Lib.hid (fun w' (k : Below w.heap.size w w') => (hE.below k (Nat.le_refl _)).sub (List.eraseIdx_sublist (l := l) (k := i)))
  obtain ⟨a, cap, rfl, -, -⟩ := hQ.rows hE.shp
  obtain ⟨n, hn⟩ : ∃ n, l.length = n := ⟨_, rfl⟩
  have HStep := Lib.hid (fun k hk => erase_step l i k hk)
  have HLen := Lib.hid (fun k => (show ((l.take k).eraseIdx i).length ≤ k from Nat.le_trans (List.length_eraseIdx_le _ _) (List.length_take_le _ _)))
  have HAll := Lib.hid (show l.take n = l from List.take_of_length_le (by omega))
  have Hn := Lib.hid hn
  have HB := Lib.hid hB
  rw [hn] at HR hl ⊢
  clear hn hQ hE hB
  go_enter Try.func32, Try.ntmps32
  go_wp2_with fail
  go_loopw [5, 9] (fun u q wr => ∃ k : Nat, k ≤ n ∧ q = .int .i64 k ∧ OwnP wr w.heap.size u ((l.take k).eraseIdx i) ∧ Below w.heap.size w wr) (fun _ q _ => n - (intOf q).toNat)
  case atStart => exact ⟨0, Nat.zero_le _, rfl, OwnP.nil _ _, Below.refl _ _⟩
  case round =>
    obtain ⟨k, hk, rfl, hP, hb⟩ := hrel
    by_cases hlt : k < n
    · have hkl : k < l.length := by rw [Hn.out]; exact hlt
      have hki : (k : Int) < (n : Int) := by omega
      have hst := HStep.out k hkl
      by_cases hki2 : k = i
      · rw [if_pos hki2] at hst
        have hne : ((k : Int) != (i : Int)) = false := by rw [hki2]; simp
        have Hst := Lib.hid hst
        have HP := Lib.hid hP
        have Hb := Lib.hid hb
        clear hst hP hb hki2
        go_wp2_with fail
        exact ⟨⟨k + 1, by omega, by go_num, by rw [Hst.out]; exact HP.out, Hb.out⟩, by simp [intOf]; omega⟩
      · rw [if_neg hki2] at hst
        have hne : ((k : Int) != (i : Int)) = true := bne_iff_ne.2 (fun e => hki2 (Int.ofNat_inj.1 e))
        obtain ⟨bk, off, rfl, _, hbk, hsix⟩ := (HR.out wr hb).cells hkl
        have hshp := HShp.out _ (List.getElem_mem hkl)
        have hlen := HLen.out k
        have Hst := Lib.hid hst
        have HP := Lib.hid hP
        have Hb := Lib.hid hb
        have HOne := Lib.hid (one6 l[k] hshp)
        have HLk := Lib.hid hlen
        clear hst hP hb hki2 hlen
        obtain ⟨-, c0, c1, c2, c3, c4, c5⟩ := hsix
        generalize l[k] = p at *
        obtain ⟨p, vh, vd⟩ := p
        obtain ⟨⟨xa, xn, xc, hvh⟩, ya, yn, yc, hvd⟩ := hshp
        dsimp only at hvh hvd c0 c1 c2 c3 c4 c5
        subst hvh hvd
        have kB := below_box wr (.cells #[.int .i64 p.src, .int .i64 p.id, .int .i64 p.cnt, .int .i64 p.since, .slice xa xn xc, .slice ya yn yc] 44)
        have HPB := Lib.hid (HP.out.alloc (.cells #[.int .i64 p.src, .int .i64 p.id, .int .i64 p.cnt, .int .i64 p.since, .slice xa xn xc, .slice ya yn yc] 44))
        have HKB := Lib.hid (bt Hb.out kB)
        clear kB
        go_wp2_with (at_builtin; refine wpList_append_own _ rfl _ _ 31 rfl w.heap.size 44 i0 (.agg #[.int .i64 0, .int .i64 0, .int .i64 0, .int .i64 0, .slice none 0 0, .slice none 0 0]) 6 80 Try.underlying31 hi0 hz0 hz1 hz2 rfl (by decide) _ _ _ rfl HPB.out ⟨wr.heap.size, 0, none⟩ 1 1 (pcells ⟨p, .slice xa xn xc, .slice ya yn yc⟩) rfl rfl ?c1 ?c2 ?c3 ?c4 ?c5 ?_)
        try case c1 => exact news6 wr ⟨p, .slice xa xn xc, .slice ya yn yc⟩ _ _ rfl
        try case c2 => exact HOne.out
        try case c3 => have := HLk.out; unfold maxLen; omega
        try case c4 => have := HLk.out; omega
        try case c5 => exact HKB.out.size
        intro v' w5 hown5 hgrow5 _
        have hP5 : OwnP w5 w.heap.size v' ((l.take k).eraseIdx i ++ [⟨p, .slice xa xn xc, .slice ya yn yc⟩]) := by
          unfold OwnP
          rw [List.length_append, List.flatMap_append, List.flatMap_cons, List.flatMap_nil, List.append_nil]; exact hown5
        have HP5 := Lib.hid hP5
        have HK5 := Lib.hid (HKB.out.grown hgrow5 HKB.out.size (fun g hg => (World.ownsRow.lt HPB.out g hg).1))
        clear hP5 hown5 hgrow5
        go_wp2_with fail
        exact ⟨⟨k + 1, by omega, by go_num, by rw [Hst.out]; exact HP5.out, HK5.out⟩, by simp [intOf]; omega⟩
    · obtain rfl : k = n := by omega
      rw [HAll.out] at hP
      have HP := Lib.hid hP
      have Hb := Lib.hid hb
      clear hP hb
      go_wp2_with fail
      go_ret
      exact ⟨_, rfl, HP.out.base HB.out, HSub.out _ Hb.out, Hb.out⟩
end Go.Proofs.Ytmjamjadfnbkdaa
