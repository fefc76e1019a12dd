/-
  The walks of what tells the missing blocks, and of the search for a boolean, the program's.
-/
import Derived.Test.YtbbfbeacgnimpaaFirG
open Go Go.RowKit Go.Proofs
namespace Go.Proofs.Ytbbfbeacgnimpaa
namespace Hub
theorem missF_zero {f : Fw} {h : List Bool} (e : chkF f = 0) : missF f h = missN f.sums.length h f.sums.length := by rw [missF, if_neg (by simp [e])]
theorem missF_bad {f : Fw} {h : List Bool} (e : chkF f ≠ 0) : missF f h = [] := by rw [missF, if_pos e]
theorem BoolsAt.get {lo N : Nat} {w : World} {a : Option Addr} {n cap : Nat} {l : List Bool} (h : BoolsAt lo N w (.slice a n cap) l) (k : Nat) (hk : k < l.length) : ∃ bk off, a = some ⟨bk, off, none⟩ ∧ bk < N ∧ w.cell? ⟨bk, off + k, none⟩ = some (.bool l[k]) := by
  obtain ⟨a', cap', e, _, hc⟩ := h
  simp only [Value.slice.injEq] at e
  obtain ⟨rfl, -, -⟩ := e
  obtain ⟨bk, off, rfl, _, hbN, hcell⟩ := hc (by intro e; rw [e] at hk; simp at hk)
  exact ⟨bk, off, rfl, hbN, hcell k hk⟩
end Hub
open Hub

set_option maxHeartbeats 1000000 in
theorem miss_any (f : Fw) (v vh : Value) (lo N : Nat) (h : List Bool) (w : World) (hv : IntsAt lo N w v f.sums) (hh : BoolsAt lo N w vh h) (hN : N ≤ w.heap.size) (hl : f.sums.length ≤ 1099511627776) :
    Calls Try.prog 30 #[fwv f v, vh] w fun e w' => ∃ u, e = .returned u ∧ OwnI w' w.heap.size u (missF f h) ∧ Below w.heap.size w w' := by
  obtain ⟨i0, hi, hz0, hz1, hz2⟩ := info_parts int_info
  have HK := Lib.hid (fun w' (k : Below w.heap.size w w') => chk_any f v lo N w' (hv.below k hN) (Nat.le_trans hN k.size) hl)
  have HH := Lib.hid (fun w' (k : Below w.heap.size w w') => hh.below k hN)
  obtain ⟨ah, caph, rfl, _, _⟩ := hh
  obtain ⟨av, capv, rfl, _⟩ := hv
  unfold fwv at *
  by_cases hz : chkF f = 0
  · have hzb : (chkF f != 0) = false := by simpa using hz
    rw [missF_zero hz]
    obtain ⟨n, hn⟩ : ∃ n, f.sums.length = n := ⟨_, rfl⟩
    rw [hn]
    rw [hn] at HK hl
    clear hz
    go_enter Try.func30, Try.ntmps30
    go_wp2_with fail
    refine (HK.out _ (below_box w _)).mono ?_
    rintro e w1 ⟨rfl, hb1⟩
    obtain ⟨c0, c1, c2, _, hb2, hs⟩ := box3 hb1
    have HH1 := Lib.hid (HH.out w1 hb2)
    clear hb1
    by_cases hE : h.length = n
    · have hEb : ((h.length : Int) == (n : Int)) = true := by simp [hE]
      go_wp2_with fail
      go_loopw [6, 20] (fun u i wr => ∃ k : Nat, k ≤ n ∧ i = .int .i64 k ∧ OwnI wr w1.heap.size u (missN n h k) ∧ Below w1.heap.size w1 wr) (fun _ i _ => n - (intOf i).toNat)
      case atStart => exact ⟨0, Nat.zero_le _, rfl, OwnI.nil _ _, Below.refl _ _⟩
      case round =>
        obtain ⟨k, hk, rfl, hown, hb⟩ := hrel
        by_cases hlt : k < n
        · have hkh : k < h.length := by omega
          obtain ⟨bk, off, rfl, hbk, hcl⟩ := (HH1.out.below hb (Nat.le_trans hN hb2.size)).get k hkh
          have hsuc := missN_succ n h k
          have hgd : h.getD k false = h[k] := by rw [List.getD_eq_getElem?_getD, List.getElem?_eq_getElem hkh]; rfl
          rw [decide_eq_true hE, hgd, Bool.true_and] at hsuc
          have hki : (k : Int) < (h.length : Int) := by omega
          clear hgd
          generalize h[k] = x at *
          cases x with
          | true =>
            rw [if_pos rfl] at hsuc
            have HS := Lib.hid hsuc
            clear hsuc
            go_wp2_with fail
            go_roundw
            case rel => exact ⟨k + 1, by omega, by go_num, by rw [HS.out]; exact hown, hb⟩
            case measure => simp [intOf]; omega
          | false =>
            rw [if_neg (by simp)] at hsuc
            have hlen := missN_length n h k
            have HLen := Lib.hid hlen
            have HS := Lib.hid hsuc
            have HB := Lib.hid hb.size
            clear hlen hsuc
            go_wp2_with (at_builtin; refine wpList_append_own _ rfl _ _ 22 rfl w1.heap.size 3 i0 (.int .i64 0) 1 8 Try.underlying22 hi hz0 hz1 hz2 rfl (by decide) _ _ _ rfl (OwnI.alloc hown _) ⟨wr.heap.size, 0, none⟩ 1 1 [.int .i64 (k : Int)] rfl rfl ?c1 ?c2 ?c3 ?c4 ?c5 ?_)
            case c1 =>
              intro j u hj
              match j, hj with
              | 0, hj => simp at hj; subst hj; simp [Addr.add]
            case c2 => intro u hu; simp at hu; subst hu; rfl
            case c3 => have := HLen.out; unfold maxLen; omega
            case c4 => have := HLen.out; omega
            case c5 => have := HB.out; simp; omega
            intro v' w4 hown' hgrow _
            go_wp2_with fail
            go_roundw
            case rel =>
              refine ⟨k + 1, by omega, by go_num, ?_, ?_⟩
              · rw [HS.out]; unfold OwnI; rw [List.length_append, List.map_append]; exact hown'
              · exact (hb.alloc HB.out _).grown hgrow (by have := HB.out; simp; omega) (fun g hg => (World.ownsRow.lt hown g hg).1)
            case measure => simp [intOf]; omega
        · obtain rfl : k = n := by omega
          go_wp2_with fail
          go_ret
          exact ⟨_, rfl, hown.base (Nat.le_of_lt hs), bt hb2 hb⟩
    · have hEb : ((h.length : Int) == (n : Int)) = false := by simp only [beq_eq_false_iff_ne]; omega
      go_wp2_with fail
      go_loopw [6, 20] (fun u i wr => ∃ k : Nat, k ≤ n ∧ i = .int .i64 k ∧ OwnI wr w1.heap.size u (missN n h k) ∧ Below w1.heap.size w1 wr) (fun _ i _ => n - (intOf i).toNat)
      case atStart => exact ⟨0, Nat.zero_le _, rfl, OwnI.nil _ _, Below.refl _ _⟩
      case round =>
        obtain ⟨k, hk, rfl, hown, hb⟩ := hrel
        by_cases hlt : k < n
        · have hsuc := missN_succ n h k
          rw [decide_eq_false hE, Bool.false_and, if_neg (by simp)] at hsuc
          have hlen := missN_length n h k
          have HLen := Lib.hid hlen
          have HS := Lib.hid hsuc
          have HB := Lib.hid hb.size
          clear hlen hsuc
          go_wp2_with (at_builtin; refine wpList_append_own _ rfl _ _ 22 rfl w1.heap.size 3 i0 (.int .i64 0) 1 8 Try.underlying22 hi hz0 hz1 hz2 rfl (by decide) _ _ _ rfl (OwnI.alloc hown _) ⟨wr.heap.size, 0, none⟩ 1 1 [.int .i64 (k : Int)] rfl rfl ?c1 ?c2 ?c3 ?c4 ?c5 ?_)
          case c1 =>
            intro j u hj
            match j, hj with
            | 0, hj => simp at hj; subst hj; simp [Addr.add]
          case c2 => intro u hu; simp at hu; subst hu; rfl
          case c3 => have := HLen.out; unfold maxLen; omega
          case c4 => have := HLen.out; omega
          case c5 => have := HB.out; simp; omega
          intro v' w4 hown' hgrow _
          go_wp2_with fail
          go_roundw
          case rel =>
            refine ⟨k + 1, by omega, by go_num, ?_, ?_⟩
            · rw [HS.out]; unfold OwnI; rw [List.length_append, List.map_append]; exact hown'
            · exact (hb.alloc HB.out _).grown hgrow (by have := HB.out; simp; omega) (fun g hg => (World.ownsRow.lt hown g hg).1)
          case measure => simp [intOf]; omega
        · obtain rfl : k = n := by omega
          go_wp2_with fail
          go_ret
          exact ⟨_, rfl, hown.base (Nat.le_of_lt hs), bt hb2 hb⟩
  · have hzb : (chkF f != 0) = true := by simpa using hz
    rw [missF_bad hz]
    clear hz
    go_enter Try.func30, Try.ntmps30
    go_wp2_with fail
    refine (HK.out _ (below_box w _)).mono ?_
    rintro e w1 ⟨rfl, hb1⟩
    obtain ⟨c0, c1, c2, _, hb2, hs⟩ := box3 hb1
    clear hb1
    go_wp2_with fail
    go_ret
    exact ⟨_, rfl, OwnI.nil _ _, hb2⟩

set_option maxHeartbeats 1000000 in
theorem index_any (v : Value) (lo N : Nat) (h : List Bool) (w : World) (hh : BoolsAt lo N w v h) (hl : h.length ≤ 1099511627776) :
    Calls Try.prog 66 #[v, .bool false] w fun e w' => (∃ r : Int, e = .returned (.int .i64 r) ∧ (0 ≤ r ↔ false ∈ h)) ∧ w = w' := by
  have HH := Lib.hid hh
  obtain ⟨ah, caph, rfl, _, _⟩ := hh
  obtain ⟨n, hn⟩ : ∃ n, h.length = n := ⟨_, rfl⟩
  rw [hn] at HH hl ⊢
  go_enter Try.func66, Try.ntmps66
  go_wp2_with fail
  go_loop [8] (fun i => ∃ k : Nat, k ≤ n ∧ i = .int .i64 k ∧ ∀ j (hj : j < h.length), j < k → h[j] = true) (fun i => n - (intOf i).toNat)
  case atStart => exact ⟨0, Nat.zero_le _, rfl, fun j _ h => by omega⟩
  case round =>
    obtain ⟨k, hk, rfl, ha⟩ := hrel
    by_cases hlt : k < n
    · have hkh : k < h.length := by omega
      obtain ⟨bk, off, rfl, hbk, hcl⟩ := HH.out.get k hkh
      have hki : (k : Int) < (n : Int) := by omega
      have HM := Lib.hid (show h[k] ∈ h from List.getElem_mem hkh)
      have HA := Lib.hid (fun (e : h[k] = true) j (hj : j < h.length) (hjk : j < k + 1) => (show h[j] = true from by
        by_cases e2 : j = k
        · subst e2; exact e
        · exact ha j hj (by omega)))
      clear ha
      generalize h[k] = x at *
      cases x with
      | true =>
        go_wp2_with fail
        exact ⟨⟨k + 1, by omega, by go_num, HA.out rfl⟩, by simp [intOf]; omega⟩
      | false =>
        go_wp2_with fail
        go_ret
        exact ⟨⟨_, rfl, ⟨fun _ => HM.out, fun _ => by omega⟩⟩, rfl⟩
    · obtain rfl : k = n := by omega
      have hm : ¬ false ∈ h := fun hm => by
        obtain ⟨j, hj, e⟩ := List.getElem_of_mem hm
        have := ha j hj (by omega)
        rw [e] at this; simp at this
      have HM := Lib.hid hm
      clear ha hm
      go_wp2_with fail
      go_ret
      exact ⟨⟨_, rfl, ⟨fun h => by omega, fun h => absurd h HM.out⟩⟩, rfl⟩

theorem contains_any (v : Value) (lo N : Nat) (h : List Bool) (w : World) (hh : BoolsAt lo N w v h) (hl : h.length ≤ 1099511627776) :
    Calls Try.prog 54 #[v, .bool false] w fun e w' => e = .returned (.bool (decide (false ∈ h))) ∧ w = w' := by
  have HI := Lib.hid (fun w h' => index_any v lo N h w h' hl)
  go_enter Try.func54, Try.ntmps54
  go_wp2_with fail
  refine (HI.out _ hh).mono ?_
  rintro e w1 ⟨⟨r, rfl, hr⟩, rfl⟩
  go_wp2_with fail
  go_ret
  have hd : decide (0 ≤ r) = decide (false ∈ h) := decide_eq_decide.2 hr
  exact ⟨by rw [← hd]; rfl, rfl⟩
end Go.Proofs.Ytbbfbeacgnimpaa
