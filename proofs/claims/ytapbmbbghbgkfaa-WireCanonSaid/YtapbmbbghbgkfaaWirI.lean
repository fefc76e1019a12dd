/-
  The walks of the reference's reader: counts, strings, booleans, lists.
-/
import Derived.Test.YtapbmbbghbgkfaaWirH
open Go Go.RowKit Go.Proofs
namespace Go.Proofs.Ytapbmbbghbgkfaa
namespace Hub
theorem drewN_add (w : World) (a b : Nat) : (w.drewN a).drewN b = w.drewN (a + b) := by simp [World.drewN, Nat.add_assoc]
end Hub
open Hub

set_option maxHeartbeats 1000000 in
theorem xCount_any (B : Nat) (S : ByteArray) (r : Rs) (m : Int) (w : World) (h : RdR B S r w) :
    Calls Try.prog 43 #[.pointer (some ⟨B, 0, none⟩), .int .i64 m] w fun e w' => e = .returned (.int .i64 (rCount m r).1) ∧ RdR B S (rCount m r).2 w' ∧ Tch B w w' := by
  have HI := Lib.hid (fun w h => xInt_any B S r w h)
  have hcd : rCount m r = if (rInt r).2.err ≠ 0 then (0, (rInt r).2) else if (rInt r).1 < 0 then (0, { (rInt r).2 with err := 4 }) else if max m 0 < (rInt r).1 then (0, { (rInt r).2 with err := 3 }) else ((rInt r).1, (rInt r).2) := rfl
  generalize rCount m r = o at *
  generalize (rInt r).1 = n at *
  generalize (rInt r).2 = r1 at *
  by_cases he : r1.err = 0
  · have heb : (r1.err != 0) = false := by simpa using he
    rw [if_neg (by omega)] at hcd
    by_cases hn : n < 0
    · rw [if_pos hn] at hcd
      subst hcd
      clear he
      go_enter Try.func43, Try.ntmps43
      go_wp2_with fail
      refine (HI.out _ h).mono ?_
      rintro e w1 ⟨rfl, h1, hk1⟩
      obtain ⟨p, hp⟩ := id h1
      have hc := hp.c2
      have hf := hp.f 2
      have hs := hp.set2 4
      go_wp2_with (go_at_call 46; refine (xErr_any B S r1 _ h1).mono ?_; rintro e w2 ⟨rfl, rfl⟩)
      all_goals (go_ret; exact ⟨rfl, ⟨p, hs⟩, hk1.setCell 2 _⟩)
    · rw [if_neg hn] at hcd
      by_cases hm : max m 0 < n
      · rw [if_pos hm] at hcd
        subst hcd
        clear he
        have hm1 : m < n := by omega
        have hm2 : 0 < n := by omega
        clear hm
        go_enter Try.func43, Try.ntmps43
        go_wp2_with fail
        refine (HI.out _ h).mono ?_
        rintro e w1 ⟨rfl, h1, hk1⟩
        obtain ⟨p, hp⟩ := id h1
        have hc := hp.c2
        have hf := hp.f 2
        have hs := hp.set2 3
        go_wp2_with (go_at_call 46; refine (xErr_any B S r1 _ h1).mono ?_; rintro e w2 ⟨rfl, rfl⟩)
        all_goals (go_ret; exact ⟨rfl, ⟨p, hs⟩, hk1.setCell 2 _⟩)
      · rw [if_neg hm] at hcd
        subst hcd
        clear he
        by_cases hm0 : m < 0
        · have hm1 : n ≤ 0 := by omega
          clear hm
          go_enter Try.func43, Try.ntmps43
          go_wp2_with fail
          refine (HI.out _ h).mono ?_
          rintro e w1 ⟨rfl, h1, hk1⟩
          go_wp2_with (go_at_call 46; refine (xErr_any B S r1 _ h1).mono ?_; rintro e w2 ⟨rfl, rfl⟩)
          all_goals (go_ret; exact ⟨rfl, h1, hk1⟩)
        · have hm1 : n ≤ m := by omega
          clear hm
          go_enter Try.func43, Try.ntmps43
          go_wp2_with fail
          refine (HI.out _ h).mono ?_
          rintro e w1 ⟨rfl, h1, hk1⟩
          go_wp2_with (go_at_call 46; refine (xErr_any B S r1 _ h1).mono ?_; rintro e w2 ⟨rfl, rfl⟩)
          all_goals (go_ret; exact ⟨rfl, h1, hk1⟩)
  · have heb : (r1.err != 0) = true := by simpa using he
    rw [if_pos he] at hcd
    subst hcd
    clear he
    go_enter Try.func43, Try.ntmps43
    go_wp2_with fail
    refine (HI.out _ h).mono ?_
    rintro e w1 ⟨rfl, h1, hk1⟩
    go_wp2_with (go_at_call 46; refine (xErr_any B S r1 _ h1).mono ?_; rintro e w2 ⟨rfl, rfl⟩)
    all_goals (go_ret; exact ⟨rfl, h1, hk1⟩)

set_option maxHeartbeats 2000000 in
theorem xText_any (B : Nat) (S : ByteArray) (r : Rs) (m : Int) (w : World) (h : RdR B S r w) :
    Calls Try.prog 41 #[.pointer (some ⟨B, 0, none⟩), .int .i64 m] w fun e w' => e = .returned (.string (mk (rText m r).1)) ∧ RdR B S (rText m r).2 w' ∧ Tch B w w' := by
  have HI := Lib.hid (fun w h => xCount_any B S r m w h)
  have hcd : rText m r = if (rCount m r).2.err ≠ 0 then ([], (rCount m r).2) else if ((rCount m r).2.rest.length : Int) < (rCount m r).1 then ([], { (rCount m r).2 with err := 5 }) else ((rCount m r).2.rest.take (rCount m r).1.toNat, { rest := (rCount m r).2.rest.drop (rCount m r).1.toNat, err := 0 }) := rfl
  have hn0 := rCount_nonneg m r
  generalize rText m r = o at *
  generalize (rCount m r).1 = n at *
  generalize (rCount m r).2 = r1 at *
  by_cases he : r1.err = 0
  · have heb : (r1.err != 0) = false := by simpa using he
    rw [if_neg (by omega)] at hcd
    by_cases hn : (r1.rest.length : Int) < n
    · rw [if_pos hn] at hcd
      subst hcd
      clear he
      go_enter Try.func41, Try.ntmps41
      go_wp2_with fail
      refine (HI.out _ h).mono ?_
      rintro e w1 ⟨rfl, h1, hk1⟩
      obtain ⟨p, hp⟩ := id h1
      have hc0 := hp.c0
      have hc1 := hp.c1
      have hc2 := hp.c2
      have hf := hp.f 2
      have hlen := hp.len
      have hpS := hp.2.1
      have hS := hp.2.2.2
      have hs := hp.set2 5
      have hlt : (S.size : Int) - p < n := by omega
      have hwr : IntKind.i64.wrap ((S.size : Int) - p) = (S.size : Int) - p := IntWalk.i64_in _ ⟨by omega, by omega⟩
      clear hlen hn
      go_wp2_with (go_at_call 46; refine (xErr_any B S r1 _ h1).mono ?_; rintro e w2 ⟨rfl, rfl⟩)
      go_quiet (fail)
      go_wp2_with fail
      go_ret
      exact ⟨rfl, ⟨p, hs⟩, (hk1.drewN _).setCell 2 _⟩
    · rw [if_neg hn] at hcd
      subst hcd
      obtain ⟨k, rfl⟩ := Int.eq_ofNat_of_zero_le hn0
      rw [Int.toNat_natCast]
      go_enter Try.func41, Try.ntmps41
      go_wp2_with fail
      refine (HI.out _ h).mono ?_
      rintro e w1 ⟨rfl, h1, hk1⟩
      obtain ⟨p, hp⟩ := id h1
      have hc0 := hp.c0
      have hc1 := hp.c1
      have hf := hp.f 1
      have hlen := hp.len
      have hpS := hp.2.1
      have hS := hp.2.2.2
      have hle : (k : Int) ≤ (S.size : Int) - p := by omega
      have hle2 : (p : Int) + k ≤ S.size := by omega
      have hle3 : (p : Int) ≤ (p : Int) + k := by omega
      have hpk : (0 : Int) ≤ (p : Int) + k := by omega
      have hwr : IntKind.i64.wrap ((S.size : Int) - p) = (S.size : Int) - p := IntWalk.i64_in _ ⟨by omega, by omega⟩
      have hwr2 : IntKind.i64.wrap ((p : Int) + k) = (p : Int) + k := IntWalk.i64_in _ ⟨by omega, by omega⟩
      have HW := Lib.hid (hp.goes he k (by omega))
      have HT := Lib.hid (show S.extract p (p + k) = mk (r1.rest.take k) from bl_inj (by rw [bl_extract, bl_mk, hp.2.2.1]; simp))
      clear hlen hn he
      go_wp2_with (go_at_call 46; refine (xErr_any B S r1 _ h1).mono ?_; rintro e w2 ⟨rfl, rfl⟩)
      go_quiet (fail)
      go_wp2_with fail
      go_quiet (fail)
      go_wp2_with fail
      go_ret
      exact ⟨ret_str HT.out, HW.out _ rfl, (hk1.drewN _).setCell 1 _⟩
  · have heb : (r1.err != 0) = true := by simpa using he
    rw [if_pos he] at hcd
    subst hcd
    clear he
    go_enter Try.func41, Try.ntmps41
    go_wp2_with fail
    refine (HI.out _ h).mono ?_
    rintro e w1 ⟨rfl, h1, hk1⟩
    go_wp2_with (go_at_call 46; refine (xErr_any B S r1 _ h1).mono ?_; rintro e w2 ⟨rfl, rfl⟩)
    go_ret
    exact ⟨rfl, h1, hk1⟩

set_option maxHeartbeats 1000000 in
theorem xBool_any (B : Nat) (S : ByteArray) (r : Rs) (w : World) (h : RdR B S r w) :
    Calls Try.prog 42 #[.pointer (some ⟨B, 0, none⟩)] w fun e w' => e = .returned (.bool (rBool r).1) ∧ RdR B S (rBool r).2 w' ∧ Tch B w w' := by
  obtain ⟨p, hp⟩ := id h
  have h0 := hp.c0
  have h1 := hp.c1
  have h2 := hp.c2
  have hf1 := hp.f 1
  have hf2 := hp.f 2
  have hpS := hp.2.1
  have hS := hp.2.2.2
  have HZ := Lib.hid (fun w h => xErr_any B S r w h)
  by_cases he : r.err = 0
  · have heb : (r.err != 0) = false := by simpa using he
    have hcd : ∀ rest, r.rest = rest → rBool r = match rest with
      | [] => (false, { r with err := 5 })
      | c :: l => if 1 < c.toNat then (false, { r with err := 4 }) else (decide (c.toNat = 1), { rest := l, err := 0 }) := by
      intro rest hr; subst hr; rw [rBool, if_neg (by omega)]; cases hr : r.rest <;> rfl
    by_cases hlt : p < S.size
    · have hby := hp.byte 0 hlt
      rw [List.drop_zero] at hby
      have hc := hcd _ hby
      have hHW := hp.goes he 1 (by omega)
      simp only [Nat.add_zero, Nat.zero_add] at hc hHW
      have hli : (p : Int) < S.size := by omega
      have hp0 : (0 : Int) ≤ p := by omega
      by_cases hb : 1 < S[p].toNat
      · rw [if_pos hb] at hc
        have HC := Lib.hid hc
        have hs := Lib.hid (hp.set2 4)
        have hbi : (1 : Int) < (S[p].toNat : Int) := by omega
        clear hc hcd hby hb hHW he
        go_enter Try.func42, Try.ntmps42
        go_wp2_with (go_at_call 46; refine (HZ.out _ h).mono ?_; rintro e w2 ⟨rfl, rfl⟩)
        go_quiet (fail)
        go_wp2_with fail
        go_quiet (fail)
        go_wp2_with fail
        go_ret
        exact ⟨by rw [HC.out]; rfl, by rw [HC.out]; exact ⟨p, hs.out⟩, ((Tch.refl _ _).drewN _).setCell 2 _⟩
      · rw [if_neg hb, ← bool_end] at hc
        have HC := Lib.hid hc
        have HW := Lib.hid hHW
        have hbi : ¬ (1 : Int) < (S[p].toNat : Int) := by omega
        clear hc hcd hby hb hHW he
        go_enter Try.func42, Try.ntmps42
        go_wp2_with (go_at_call 46; refine (HZ.out _ h).mono ?_; rintro e w2 ⟨rfl, rfl⟩)
        go_quiet (fail)
        go_wp2_with fail
        go_quiet (fail)
        go_wp2_with fail
        go_ret
        refine ⟨by rw [HC.out]; rfl, ?_, ((Tch.refl _ _).drewN _).setCell 1 _⟩
        rw [HC.out]
        exact HW.out _ rfl
    · have hr : r.rest = [] := List.length_eq_zero_iff.1 (by rw [hp.len]; omega)
      have hc := hcd _ hr
      have HC := Lib.hid hc
      have hs := Lib.hid (hp.set2 5)
      have hli : ¬ (p : Int) < S.size := by omega
      clear hc hcd hr hlt
      go_enter Try.func42, Try.ntmps42
      go_wp2_with (go_at_call 46; refine (HZ.out _ h).mono ?_; rintro e w2 ⟨rfl, rfl⟩)
      go_quiet (fail)
      go_wp2_with fail
      go_ret
      exact ⟨by rw [HC.out]; rfl, by rw [HC.out]; exact ⟨p, hs.out⟩, ((Tch.refl _ _).drewN _).setCell 2 _⟩
  · have heb : (r.err != 0) = true := by simpa using he
    have hcd : rBool r = (false, r) := by rw [rBool, if_pos he]
    rw [hcd]; clear hcd
    clear he
    go_enter Try.func42, Try.ntmps42
    go_wp2_with (go_at_call 46; refine (HZ.out _ h).mono ?_; rintro e w2 ⟨rfl, rfl⟩)
    go_ret
    exact ⟨rfl, h, Tch.refl _ _⟩

set_option maxHeartbeats 1000000 in
theorem xInts_any (B : Nat) (S : ByteArray) (r : Rs) (m : Int) (w : World) (h : RdR B S r w) :
    Calls Try.prog 44 #[.pointer (some ⟨B, 0, none⟩), .int .i64 m] w fun e w' => ∃ v, e = .returned v ∧ OwnI w' w.heap.size v (rInts m r).1 ∧ RdR B S (rInts m r).2 w' ∧ Tch B w w' := by
  obtain ⟨i0, hi, hz0, hz1, hz2⟩ := info_parts int_info
  have hBw := h.lt
  have HI := Lib.hid (fun w h => xCount_any B S r m w h)
  have hcd : rInts m r = if (rMany (rCount m r).1.toNat (rCount m r).2).2.err ≠ 0 then ([], (rMany (rCount m r).1.toNat (rCount m r).2).2) else rMany (rCount m r).1.toNat (rCount m r).2 := rfl
  have hn0 := rCount_nonneg m r
  have hn1 := rCount_max m r
  generalize rInts m r = o at *
  generalize (rCount m r).1 = n at *
  generalize (rCount m r).2 = r1 at *
  obtain ⟨n, rfl⟩ := Int.eq_ofNat_of_zero_le hn0
  rw [Int.toNat_natCast] at hcd
  have hn2 : n ≤ 9223372036854775807 := by omega
  have HCD := Lib.hid hcd
  clear hcd hn1
  go_enter Try.func44, Try.ntmps44
  go_wp2_with fail
  refine (HI.out _ h).mono ?_
  rintro e w1 ⟨rfl, h1, hk1⟩
  have HK1 := Lib.hid hk1.size
  go_wp2_with fail
  go_loopw [6, 7] (fun v i wr => ∃ k : Nat, k ≤ n ∧ i = .int .i64 k ∧ (0 < k → (rMany k r1).2.err = 0) ∧ k + (rMany k r1).2.rest.length ≤ r1.rest.length ∧ OwnI wr w.heap.size v (rMany k r1).1 ∧ RdR B S (rMany k r1).2 wr ∧ Tch B w wr) (fun _ i _ => n - (intOf i).toNat)
  case atStart => exact ⟨0, Nat.zero_le _, rfl, fun h => by omega, Nat.le_of_eq (Nat.zero_add _), OwnI.nil _ _, h1, hk1⟩
  case round =>
    obtain ⟨k, hk, rfl, hok, hkl, hown, hrd, ht⟩ := hrel
    by_cases hlt : k < n
    · have HS := Lib.hid (rMany_succ k r1)
      have HL := Lib.hid (rMany_length k r1)
      have HSp := Lib.hid (rMany_split k (n - k) r1)
      rw [show k + (n - k) = n from by omega] at HSp
      have HKL := Lib.hid hkl
      have HR1 := Lib.hid (show r1.rest.length ≤ 1099511627776 from by obtain ⟨p, hp⟩ := h1; have := hp.len; have := hp.2.2.2; omega)
      clear hok hkl
      generalize rMany k r1 = q at *
      go_wp2_with fail
      refine (xInt_any B S q.2 _ hrd).mono ?_
      rintro e w3 ⟨rfl, hrd3, ht3⟩
      have hown3 := hown.tch ht3 hBw
      have HB3 := Lib.hid ht3.size
      have HB := Lib.hid ht.size
      generalize hx : (rInt q.2).1 = x at *
      generalize hr3 : (rInt q.2).2 = r3 at *
      have HX := Lib.hid (And.intro hx hr3)
      have HLt := Lib.hid (fun h => rInt_lt q.2 (by rw [hr3]; exact h))
      rw [hr3] at HLt
      clear hx hr3
      by_cases he : r3.err = 0
      · have heb : (r3.err != 0) = false := by simpa using he
        have HE := Lib.hid he
        clear he
        go_wp2_with (first | (go_at_call 46; refine (xErr_any B S r3 _ hrd3).mono ?_; rintro e w2 ⟨rfl, rfl⟩) | (at_builtin; refine wpList_append_own _ rfl _ _ 22 rfl w.heap.size 3 i0 (.int .i64 0) 1 8 Try.underlying22 hi hz0 hz1 hz2 rfl (by decide) _ _ _ rfl (OwnI.alloc hown3 _) ⟨w3.heap.size, 0, none⟩ 1 1 [.int .i64 x] rfl rfl ?c1 ?c2 ?c3 ?c4 ?c5 ?_))
        case c1 =>
          intro j u hj
          match j, hj with
          | 0, hj => simp at hj; subst hj; simp [Addr.add]
        case c2 => intro u hu; simp at hu; subst hu; rfl
        case c3 => have := HKL.out; have := HR1.out; rw [HL.out]; unfold maxLen; omega
        case c4 => have := HKL.out; have := HR1.out; rw [HL.out]; have := HLt.out HE.out; omega
        case c5 => have := HB3.out; have := HB.out; simp; omega
        intro v' w4 hown' hgrow _
        go_wp2_with fail
        go_roundw
        case rel =>
          have hne : u6.ownBlock ≠ some B := by
            intro e
            have := (World.ownsRow.lt hown3 B e).1
            omega
          refine ⟨k + 1, by omega, by go_num, fun _ => ?_, ?_, ?_, ?_, ?_⟩
          · rw [HS.out]; exact HE.out
          · rw [HS.out]
            have := HKL.out
            have := HLt.out HE.out
            show k + 1 + r3.rest.length ≤ r1.rest.length
            omega
          · rw [HS.out]
            unfold OwnI
            rw [List.length_append, List.map_append]; exact hown'
          · rw [HS.out]
            exact RdR.grown (RdR.below hrd3 ((Below.refl w3.heap.size _).alloc (Nat.le_refl _) _) hrd3.lt) hgrow hne
          · exact ((ht.trans ht3).alloc _).grown hgrow fun g hg => (World.ownsRow.lt hown3 g hg).1
        case measure => simp [intOf]; omega
      · have heb : (r3.err != 0) = true := by simpa using he
        have hfin : (rMany n r1).2 = r3 := by
          have h1 := HSp.out
          rw [h1, show n - k = (n - k - 1) + 1 from by omega]
          show (rMany (n - k - 1) (rInt q.2).2).2 = r3
          rw [HX.out.2]
          exact rMany_bad _ r3 he
        have hO : o = ([], r3) := by rw [HCD.out, hfin, if_pos he]
        have HO := Lib.hid hO
        clear he hfin hO
        go_wp2_with (go_at_call 46; refine (xErr_any B S r3 _ hrd3).mono ?_; rintro e w2 ⟨rfl, rfl⟩)
        go_ret
        exact ⟨_, rfl, by rw [HO.out]; exact OwnI.nil _ _, by rw [HO.out]; exact hrd3, ht.trans ht3⟩
    · obtain rfl : k = n := by omega
      go_wp2_with fail
      go_ret
      by_cases he : (rMany k r1).2.err = 0
      · have hO : o = rMany k r1 := by rw [HCD.out, if_neg (by omega)]
        rw [hO]
        exact ⟨_, rfl, hown, hrd, ht⟩
      · have hk0 : k = 0 := by
          rcases Nat.eq_zero_or_pos k with h | h
          · exact h
          · exact absurd (hok h) he
        subst hk0
        have hO : o = ([], (rMany 0 r1).2) := by rw [HCD.out, if_pos he]
        rw [hO]
        exact ⟨_, rfl, hown, hrd, ht⟩

/-- Two lists of numbers are the same. -/
theorem same_any (v v' : Value) (l l' : List Int) (lo N lo' N' : Nat) (w : World) (hv : IntsAt lo N w v l) (hv' : IntsAt lo' N' w v' l') (hl : l.length ≤ 1099511627776) :
    Calls Try.prog 26 #[v, v'] w fun e w' => e = .returned (.bool (decide (l = l'))) ∧ ∃ n, w' = w.drewN n := by
  obtain ⟨a, cap, rfl, hc⟩ := hv
  obtain ⟨a', cap', rfl, hc'⟩ := hv'
  have HC := Lib.hid hc
  have HC' := Lib.hid hc'
  clear hc hc'
  by_cases hne : l.length = l'.length
  · have HN := Lib.hid hne
    rw [← hne]
    clear hne
    obtain ⟨L, hL⟩ : ∃ L, l.length = L := ⟨_, rfl⟩
    rw [hL]
    rw [hL] at hl
    have HL := Lib.hid hL
    clear hL
    go_enter Try.func26, Try.ntmps26
    go_wp2_with fail
    go_loopw [5] (fun i wr => ∃ k : Nat, k ≤ L ∧ i = .int .i64 k ∧ l.take k = l'.take k ∧ ∃ n, wr = w.drewN n) (fun i _ => L - (intOf i).toNat)
    case atStart => exact ⟨0, Nat.zero_le _, rfl, rfl, 0, rfl⟩
    case round =>
      obtain ⟨k, hk, rfl, hk2, n, rfl⟩ := hrel
      have HK := Lib.hid hk2
      clear hk2
      by_cases hlt : k < L
      · have h1 : k < l.length := by rw [HL.out]; exact hlt
        have h2 : k < l'.length := by rw [← HN.out, HL.out]; exact hlt
        obtain ⟨b, off, rfl, _, hbN, hcell⟩ := HC.out (by intro h; rw [h] at h1; simp at h1)
        obtain ⟨b', off', rfl, _, hbN', hcell'⟩ := HC'.out (by intro h; rw [h] at h2; simp at h2)
        have e1 := hcell k h1
        have e2 := hcell' k h2
        have HT := Lib.hid (show l.take (k + 1) = l.take k ++ [l[k]] from List.take_succ_eq_append_getElem h1)
        have HT' := Lib.hid (show l'.take (k + 1) = l'.take k ++ [l'[k]] from List.take_succ_eq_append_getElem h2)
        have HG := Lib.hid (fun h : l = l' => show l[k] = l'[k] from by subst h; rfl)
        clear hcell hcell'
        generalize l[k] = x at *
        generalize l'[k] = y at *
        clear h1 h2
        by_cases hxy : x = y
        · have hb : (x != y) = false := by simpa using hxy
          have HXY := Lib.hid hxy
          clear hxy
          go_wp2_with fail
          go_quiet (fail)
          go_wp2_with fail
          go_roundw
          case rel => exact ⟨k + 1, by omega, by go_num, by rw [HT.out, HT'.out, HK.out, HXY.out], _, rfl⟩
          case measure => simp [intOf]; omega
        · have hb : (x != y) = true := by simpa using hxy
          have HXY := Lib.hid (show ¬ l = l' from fun h => hxy (HG.out h))
          clear hxy
          go_wp2_with fail
          go_quiet (fail)
          go_wp2_with fail
          go_ret
          exact ⟨by rw [decide_eq_false HXY.out]; rfl, n + _, drewN_add _ _ _⟩
      · obtain rfl : k = L := by omega
        go_wp2_with fail
        go_ret
        have he : l = l' := by
          have h1 := HK.out
          rw [List.take_of_length_le (by rw [HL.out]; omega), List.take_of_length_le (by rw [← HN.out, HL.out]; omega)] at h1
          exact h1
        exact ⟨by rw [decide_eq_true he]; rfl, _, rfl⟩
  · have hb : ((l.length : Int) != (l'.length : Int)) = true := by simp; omega
    have hd : ¬ l = l' := fun h => hne (by rw [h])
    rw [decide_eq_false hd]
    clear hne hd
    go_enter Try.func26, Try.ntmps26
    go_wp2_with fail
    go_ret
    exact ⟨rfl, 0, rfl⟩
end Go.Proofs.Ytapbmbbghbgkfaa
