/-
  The walks of the reference's reader: counts, strings, booleans, lists.
-/
import Derived.Test.YtbbfbeacgnimpaaWirH
open Go Go.RowKit Go.Proofs
namespace Go.Proofs.Ytbbfbeacgnimpaa
namespace Hub
theorem drewN_add (w : World) (a b : Nat) : (w.drewN a).drewN b = w.drewN (a + b) := by simp [World.drewN, Nat.add_assoc]
end Hub
open Hub

set_option maxHeartbeats 1000000 in
theorem xCount_any (B : Nat) (S : ByteArray) (r : Rs) (m : Int) (w : World) (h : RdR B S r w) :
    Calls Try.prog 64 #[.pointer (some ⟨B, 0, none⟩), .int .i64 m] w fun e w' => e = .returned (.int .i64 (rCount m r).1) ∧ RdR B S (rCount m r).2 w' ∧ Tch B w w' := by
  have HI := Lib.hid (fun w h => xInt_any B S r w h)
  have hcd : rCount m r = if (rInt r).2.err ≠ 0 then (0, (rInt r).2) else if (rInt r).1 < 0 then (0, { (rInt r).2 with err := 4 }) else if max m 0 < (rInt r).1 then (0, { (rInt r).2 with err := 3 }) else ((rInt r).1, (rInt r).2) := rfl
  generalize rCount m r = o at *
  generalize (rInt r).1 = n at *
  generalize (rInt r).2 = r1 at *
  by_cases he : r1.err = 0
  · have heb : (r1.err != 0) = false := by simpa using he
    rw [if_neg (by omega)] at hcd
    by_cases hn : n < 0
    · rw [if_pos hn] at hcd
      subst hcd
      clear he
      go_enter Try.func64, Try.ntmps64
      go_wp2_with fail
      refine (HI.out _ h).mono ?_
      rintro e w1 ⟨rfl, h1, hk1⟩
      obtain ⟨p, hp⟩ := id h1
      have hc := hp.c2
      have hf := hp.f 2
      have hs := hp.set2 4
      go_wp2_with (go_at_call 63; refine (xErr_any B S r1 _ h1).mono ?_; rintro e w2 ⟨rfl, rfl⟩)
      all_goals (go_ret; exact ⟨rfl, ⟨p, hs⟩, hk1.setCell 2 _⟩)
    · rw [if_neg hn] at hcd
      by_cases hm : max m 0 < n
      · rw [if_pos hm] at hcd
        subst hcd
        clear he
        have hm1 : m < n := by omega
        have hm2 : 0 < n := by omega
        clear hm
        go_enter Try.func64, Try.ntmps64
        go_wp2_with fail
        refine (HI.out _ h).mono ?_
        rintro e w1 ⟨rfl, h1, hk1⟩
        obtain ⟨p, hp⟩ := id h1
        have hc := hp.c2
        have hf := hp.f 2
        have hs := hp.set2 3
        go_wp2_with (go_at_call 63; refine (xErr_any B S r1 _ h1).mono ?_; rintro e w2 ⟨rfl, rfl⟩)
        all_goals (go_ret; exact ⟨rfl, ⟨p, hs⟩, hk1.setCell 2 _⟩)
      · rw [if_neg hm] at hcd
        subst hcd
        clear he
        by_cases hm0 : m < 0
        · have hm1 : n ≤ 0 := by omega
          clear hm
          go_enter Try.func64, Try.ntmps64
          go_wp2_with fail
          refine (HI.out _ h).mono ?_
          rintro e w1 ⟨rfl, h1, hk1⟩
          go_wp2_with (go_at_call 63; refine (xErr_any B S r1 _ h1).mono ?_; rintro e w2 ⟨rfl, rfl⟩)
          all_goals (go_ret; exact ⟨rfl, h1, hk1⟩)
        · have hm1 : n ≤ m := by omega
          clear hm
          go_enter Try.func64, Try.ntmps64
          go_wp2_with fail
          refine (HI.out _ h).mono ?_
          rintro e w1 ⟨rfl, h1, hk1⟩
          go_wp2_with (go_at_call 63; refine (xErr_any B S r1 _ h1).mono ?_; rintro e w2 ⟨rfl, rfl⟩)
          all_goals (go_ret; exact ⟨rfl, h1, hk1⟩)
  · have heb : (r1.err != 0) = true := by simpa using he
    rw [if_pos he] at hcd
    subst hcd
    clear he
    go_enter Try.func64, Try.ntmps64
    go_wp2_with fail
    refine (HI.out _ h).mono ?_
    rintro e w1 ⟨rfl, h1, hk1⟩
    go_wp2_with (go_at_call 63; refine (xErr_any B S r1 _ h1).mono ?_; rintro e w2 ⟨rfl, rfl⟩)
    all_goals (go_ret; exact ⟨rfl, h1, hk1⟩)

set_option maxHeartbeats 1000000 in
theorem xInts_any (B : Nat) (S : ByteArray) (r : Rs) (m : Int) (w : World) (h : RdR B S r w) :
    Calls Try.prog 45 #[.pointer (some ⟨B, 0, none⟩), .int .i64 m] w fun e w' => ∃ v, e = .returned v ∧ OwnI w' w.heap.size v (rInts m r).1 ∧ RdR B S (rInts m r).2 w' ∧ Tch B w w' := by
  obtain ⟨i0, hi, hz0, hz1, hz2⟩ := info_parts int_info
  have hBw := h.lt
  have HI := Lib.hid (fun w h => xCount_any B S r m w h)
  have hcd : rInts m r = if (rMany (rCount m r).1.toNat (rCount m r).2).2.err ≠ 0 then ([], (rMany (rCount m r).1.toNat (rCount m r).2).2) else rMany (rCount m r).1.toNat (rCount m r).2 := rfl
  have hn0 := rCount_nonneg m r
  have hn1 := rCount_max m r
  generalize rInts m r = o at *
  generalize (rCount m r).1 = n at *
  generalize (rCount m r).2 = r1 at *
  obtain ⟨n, rfl⟩ := Int.eq_ofNat_of_zero_le hn0
  rw [Int.toNat_natCast] at hcd
  have hn2 : n ≤ 9223372036854775807 := by omega
  have HCD := Lib.hid hcd
  clear hcd hn1
  go_enter Try.func45, Try.ntmps45
  go_wp2_with fail
  refine (HI.out _ h).mono ?_
  rintro e w1 ⟨rfl, h1, hk1⟩
  have HK1 := Lib.hid hk1.size
  go_wp2_with fail
  go_loopw [6, 7] (fun v i wr => ∃ k : Nat, k ≤ n ∧ i = .int .i64 k ∧ (0 < k → (rMany k r1).2.err = 0) ∧ k + (rMany k r1).2.rest.length ≤ r1.rest.length ∧ OwnI wr w.heap.size v (rMany k r1).1 ∧ RdR B S (rMany k r1).2 wr ∧ Tch B w wr) (fun _ i _ => n - (intOf i).toNat)
  case atStart => exact ⟨0, Nat.zero_le _, rfl, fun h => by omega, Nat.le_of_eq (Nat.zero_add _), OwnI.nil _ _, h1, hk1⟩
  case round =>
    obtain ⟨k, hk, rfl, hok, hkl, hown, hrd, ht⟩ := hrel
    by_cases hlt : k < n
    · have HS := Lib.hid (rMany_succ k r1)
      have HL := Lib.hid (rMany_length k r1)
      have HSp := Lib.hid (rMany_split k (n - k) r1)
      rw [show k + (n - k) = n from by omega] at HSp
      have HKL := Lib.hid hkl
      have HR1 := Lib.hid (show r1.rest.length ≤ 1099511627776 from by obtain ⟨p, hp⟩ := h1; have := hp.len; have := hp.2.2.2; omega)
      clear hok hkl
      generalize rMany k r1 = q at *
      go_wp2_with fail
      refine (xInt_any B S q.2 _ hrd).mono ?_
      rintro e w3 ⟨rfl, hrd3, ht3⟩
      have hown3 := hown.tch ht3 hBw
      have HB3 := Lib.hid ht3.size
      have HB := Lib.hid ht.size
      generalize hx : (rInt q.2).1 = x at *
      generalize hr3 : (rInt q.2).2 = r3 at *
      have HX := Lib.hid (And.intro hx hr3)
      have HLt := Lib.hid (fun h => rInt_lt q.2 (by rw [hr3]; exact h))
      rw [hr3] at HLt
      clear hx hr3
      by_cases he : r3.err = 0
      · have heb : (r3.err != 0) = false := by simpa using he
        have HE := Lib.hid he
        clear he
        go_wp2_with (first | (go_at_call 63; refine (xErr_any B S r3 _ hrd3).mono ?_; rintro e w2 ⟨rfl, rfl⟩) | (at_builtin; refine wpList_append_own _ rfl _ _ 22 rfl w.heap.size 3 i0 (.int .i64 0) 1 8 Try.underlying22 hi hz0 hz1 hz2 rfl (by decide) _ _ _ rfl (OwnI.alloc hown3 _) ⟨w3.heap.size, 0, none⟩ 1 1 [.int .i64 x] rfl rfl ?c1 ?c2 ?c3 ?c4 ?c5 ?_))
        case c1 =>
          intro j u hj
          match j, hj with
          | 0, hj => simp at hj; subst hj; simp [Addr.add]
        case c2 => intro u hu; simp at hu; subst hu; rfl
        case c3 => have := HKL.out; have := HR1.out; rw [HL.out]; unfold maxLen; omega
        case c4 => have := HKL.out; have := HR1.out; rw [HL.out]; have := HLt.out HE.out; omega
        case c5 => have := HB3.out; have := HB.out; simp; omega
        intro v' w4 hown' hgrow _
        go_wp2_with fail
        go_roundw
        case rel =>
          have hne : u6.ownBlock ≠ some B := by
            intro e
            have := (World.ownsRow.lt hown3 B e).1
            omega
          refine ⟨k + 1, by omega, by go_num, fun _ => ?_, ?_, ?_, ?_, ?_⟩
          · rw [HS.out]; exact HE.out
          · rw [HS.out]
            have := HKL.out
            have := HLt.out HE.out
            show k + 1 + r3.rest.length ≤ r1.rest.length
            omega
          · rw [HS.out]
            unfold OwnI
            rw [List.length_append, List.map_append]; exact hown'
          · rw [HS.out]
            exact RdR.grown (RdR.below hrd3 ((Below.refl w3.heap.size _).alloc (Nat.le_refl _) _) hrd3.lt) hgrow hne
          · exact ((ht.trans ht3).alloc _).grown hgrow fun g hg => (World.ownsRow.lt hown3 g hg).1
        case measure => simp [intOf]; omega
      · have heb : (r3.err != 0) = true := by simpa using he
        have hfin : (rMany n r1).2 = r3 := by
          have h1 := HSp.out
          rw [h1, show n - k = (n - k - 1) + 1 from by omega]
          show (rMany (n - k - 1) (rInt q.2).2).2 = r3
          rw [HX.out.2]
          exact rMany_bad _ r3 he
        have hO : o = ([], r3) := by rw [HCD.out, hfin, if_pos he]
        have HO := Lib.hid hO
        clear he hfin hO
        go_wp2_with (go_at_call 63; refine (xErr_any B S r3 _ hrd3).mono ?_; rintro e w2 ⟨rfl, rfl⟩)
        go_ret
        exact ⟨_, rfl, by rw [HO.out]; exact OwnI.nil _ _, by rw [HO.out]; exact hrd3, ht.trans ht3⟩
    · obtain rfl : k = n := by omega
      go_wp2_with fail
      go_ret
      by_cases he : (rMany k r1).2.err = 0
      · have hO : o = rMany k r1 := by rw [HCD.out, if_neg (by omega)]
        rw [hO]
        exact ⟨_, rfl, hown, hrd, ht⟩
      · have hk0 : k = 0 := by
          rcases Nat.eq_zero_or_pos k with h | h
          · exact h
          · exact absurd (hok h) he
        subst hk0
        have hO : o = ([], (rMany 0 r1).2) := by rw [HCD.out, if_pos he]
        rw [hO]
        exact ⟨_, rfl, hown, hrd, ht⟩

end Go.Proofs.Ytbbfbeacgnimpaa
