/-
  The walks of the reference's reader: counts, strings, booleans, lists.
-/
import Derived.Test.YtnglepapodncbaaWirH
open Go Go.RowKit Go.Proofs
namespace Go.Proofs.Ytnglepapodncbaa
namespace Hub
theorem drewN_add (w : World) (a b : Nat) : (w.drewN a).drewN b = w.drewN (a + b) := by simp [World.drewN, Nat.add_assoc]
end Hub
open Hub

set_option maxHeartbeats 1000000 in
theorem xCount_any (B : Nat) (S : ByteArray) (r : Rs) (m : Int) (w : World) (h : RdR B S r w) :
    Calls Try.prog 58 #[.pointer (some ⟨B, 0, none⟩), .int .i64 m] w fun e w' => e = .returned (.int .i64 (rCount m r).1) ∧ RdR B S (rCount m r).2 w' ∧ Tch B w w' := by
  have HI := Lib.hid (fun w h => xInt_any B S r w h)
  have hcd : rCount m r = if (rInt r).2.err ≠ 0 then (0, (rInt r).2) else if (rInt r).1 < 0 then (0, { (rInt r).2 with err := 4 }) else if max m 0 < (rInt r).1 then (0, { (rInt r).2 with err := 3 }) else ((rInt r).1, (rInt r).2) := rfl
  generalize rCount m r = o at *
  generalize (rInt r).1 = n at *
  generalize (rInt r).2 = r1 at *
  by_cases he : r1.err = 0
  · have heb : (r1.err != 0) = false := by simpa using he
    rw [if_neg (by omega)] at hcd
    by_cases hn : n < 0
    · rw [if_pos hn] at hcd
      subst hcd
      clear he
      go_enter Try.func58, Try.ntmps58
      go_wp2_with fail
      refine (HI.out _ h).mono ?_
      rintro e w1 ⟨rfl, h1, hk1⟩
      obtain ⟨p, hp⟩ := id h1
      have hc := hp.c2
      have hf := hp.f 2
      have hs := hp.set2 4
      go_wp2_with (go_at_call 49; refine (xErr_any B S r1 _ h1).mono ?_; rintro e w2 ⟨rfl, rfl⟩)
      all_goals (go_ret; exact ⟨rfl, ⟨p, hs⟩, hk1.setCell 2 _⟩)
    · rw [if_neg hn] at hcd
      by_cases hm : max m 0 < n
      · rw [if_pos hm] at hcd
        subst hcd
        clear he
        have hm1 : m < n := by omega
        have hm2 : 0 < n := by omega
        clear hm
        go_enter Try.func58, Try.ntmps58
        go_wp2_with fail
        refine (HI.out _ h).mono ?_
        rintro e w1 ⟨rfl, h1, hk1⟩
        obtain ⟨p, hp⟩ := id h1
        have hc := hp.c2
        have hf := hp.f 2
        have hs := hp.set2 3
        go_wp2_with (go_at_call 49; refine (xErr_any B S r1 _ h1).mono ?_; rintro e w2 ⟨rfl, rfl⟩)
        all_goals (go_ret; exact ⟨rfl, ⟨p, hs⟩, hk1.setCell 2 _⟩)
      · rw [if_neg hm] at hcd
        subst hcd
        clear he
        by_cases hm0 : m < 0
        · have hm1 : n ≤ 0 := by omega
          clear hm
          go_enter Try.func58, Try.ntmps58
          go_wp2_with fail
          refine (HI.out _ h).mono ?_
          rintro e w1 ⟨rfl, h1, hk1⟩
          go_wp2_with (go_at_call 49; refine (xErr_any B S r1 _ h1).mono ?_; rintro e w2 ⟨rfl, rfl⟩)
          all_goals (go_ret; exact ⟨rfl, h1, hk1⟩)
        · have hm1 : n ≤ m := by omega
          clear hm
          go_enter Try.func58, Try.ntmps58
          go_wp2_with fail
          refine (HI.out _ h).mono ?_
          rintro e w1 ⟨rfl, h1, hk1⟩
          go_wp2_with (go_at_call 49; refine (xErr_any B S r1 _ h1).mono ?_; rintro e w2 ⟨rfl, rfl⟩)
          all_goals (go_ret; exact ⟨rfl, h1, hk1⟩)
  · have heb : (r1.err != 0) = true := by simpa using he
    rw [if_pos he] at hcd
    subst hcd
    clear he
    go_enter Try.func58, Try.ntmps58
    go_wp2_with fail
    refine (HI.out _ h).mono ?_
    rintro e w1 ⟨rfl, h1, hk1⟩
    go_wp2_with (go_at_call 49; refine (xErr_any B S r1 _ h1).mono ?_; rintro e w2 ⟨rfl, rfl⟩)
    all_goals (go_ret; exact ⟨rfl, h1, hk1⟩)

set_option maxHeartbeats 2000000 in
theorem xText_any (B : Nat) (S : ByteArray) (r : Rs) (m : Int) (w : World) (h : RdR B S r w) :
    Calls Try.prog 51 #[.pointer (some ⟨B, 0, none⟩), .int .i64 m] w fun e w' => e = .returned (.string (mk (rText m r).1)) ∧ RdR B S (rText m r).2 w' ∧ Tch B w w' := by
  have HI := Lib.hid (fun w h => xCount_any B S r m w h)
  have hcd : rText m r = if (rCount m r).2.err ≠ 0 then ([], (rCount m r).2) else if ((rCount m r).2.rest.length : Int) < (rCount m r).1 then ([], { (rCount m r).2 with err := 5 }) else ((rCount m r).2.rest.take (rCount m r).1.toNat, { rest := (rCount m r).2.rest.drop (rCount m r).1.toNat, err := 0 }) := rfl
  have hn0 := rCount_nonneg m r
  generalize rText m r = o at *
  generalize (rCount m r).1 = n at *
  generalize (rCount m r).2 = r1 at *
  by_cases he : r1.err = 0
  · have heb : (r1.err != 0) = false := by simpa using he
    rw [if_neg (by omega)] at hcd
    by_cases hn : (r1.rest.length : Int) < n
    · rw [if_pos hn] at hcd
      subst hcd
      clear he
      go_enter Try.func51, Try.ntmps51
      go_wp2_with fail
      refine (HI.out _ h).mono ?_
      rintro e w1 ⟨rfl, h1, hk1⟩
      obtain ⟨p, hp⟩ := id h1
      have hc0 := hp.c0
      have hc1 := hp.c1
      have hc2 := hp.c2
      have hf := hp.f 2
      have hlen := hp.len
      have hpS := hp.2.1
      have hS := hp.2.2.2
      have hs := hp.set2 5
      have hlt : (S.size : Int) - p < n := by omega
      have hwr : IntKind.i64.wrap ((S.size : Int) - p) = (S.size : Int) - p := IntWalk.i64_in _ ⟨by omega, by omega⟩
      clear hlen hn
      go_wp2_with (go_at_call 49; refine (xErr_any B S r1 _ h1).mono ?_; rintro e w2 ⟨rfl, rfl⟩)
      go_quiet (fail)
      go_wp2_with fail
      go_ret
      exact ⟨rfl, ⟨p, hs⟩, (hk1.drewN _).setCell 2 _⟩
    · rw [if_neg hn] at hcd
      subst hcd
      obtain ⟨k, rfl⟩ := Int.eq_ofNat_of_zero_le hn0
      rw [Int.toNat_natCast]
      go_enter Try.func51, Try.ntmps51
      go_wp2_with fail
      refine (HI.out _ h).mono ?_
      rintro e w1 ⟨rfl, h1, hk1⟩
      obtain ⟨p, hp⟩ := id h1
      have hc0 := hp.c0
      have hc1 := hp.c1
      have hf := hp.f 1
      have hlen := hp.len
      have hpS := hp.2.1
      have hS := hp.2.2.2
      have hle : (k : Int) ≤ (S.size : Int) - p := by omega
      have hle2 : (p : Int) + k ≤ S.size := by omega
      have hle3 : (p : Int) ≤ (p : Int) + k := by omega
      have hpk : (0 : Int) ≤ (p : Int) + k := by omega
      have hwr : IntKind.i64.wrap ((S.size : Int) - p) = (S.size : Int) - p := IntWalk.i64_in _ ⟨by omega, by omega⟩
      have hwr2 : IntKind.i64.wrap ((p : Int) + k) = (p : Int) + k := IntWalk.i64_in _ ⟨by omega, by omega⟩
      have HW := Lib.hid (hp.goes he k (by omega))
      have HT := Lib.hid (show S.extract p (p + k) = mk (r1.rest.take k) from bl_inj (by rw [bl_extract, bl_mk, hp.2.2.1]; simp))
      clear hlen hn he
      go_wp2_with (go_at_call 49; refine (xErr_any B S r1 _ h1).mono ?_; rintro e w2 ⟨rfl, rfl⟩)
      go_quiet (fail)
      go_wp2_with fail
      go_quiet (fail)
      go_wp2_with fail
      go_ret
      exact ⟨ret_str HT.out, HW.out _ rfl, (hk1.drewN _).setCell 1 _⟩
  · have heb : (r1.err != 0) = true := by simpa using he
    rw [if_pos he] at hcd
    subst hcd
    clear he
    go_enter Try.func51, Try.ntmps51
    go_wp2_with fail
    refine (HI.out _ h).mono ?_
    rintro e w1 ⟨rfl, h1, hk1⟩
    go_wp2_with (go_at_call 49; refine (xErr_any B S r1 _ h1).mono ?_; rintro e w2 ⟨rfl, rfl⟩)
    go_ret
    exact ⟨rfl, h1, hk1⟩

end Go.Proofs.Ytnglepapodncbaa
