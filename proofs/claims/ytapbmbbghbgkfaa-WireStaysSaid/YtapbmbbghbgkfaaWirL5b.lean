/-
  The walk of the fifth law, whole.
-/
import Derived.Test.YtapbmbbghbgkfaaWirL5
import Derived.Test.YtapbmbbghbgkfaaWirP
open Go Go.RowKit Go.Proofs
namespace Go.Proofs.Ytapbmbbghbgkfaa
namespace Hub
/-- The state after the calls. -/
def rSteps : List (Int × Int × Int) → Rs → Rs
  | [], r => r
  | c :: l, r => rSteps l (rStep c.1 c.2.1 c.2.2 r)
theorem rSteps_take (l : List (Int × Int × Int)) : ∀ (k : Nat) (h : k < l.length) (r : Rs), rSteps (l.take (k + 1)) r = rStep l[k].1 l[k].2.1 l[k].2.2 (rSteps (l.take k) r) := by
  induction l with
  | nil => intro k h; simp at h
  | cons c l ih =>
    intro k h r
    cases k with
    | zero => rfl
    | succ k => exact ih k (by simpa using h) _
end Hub
open Hub

set_option maxHeartbeats 4000000 in
theorem reads_any (s : ByteArray) (v : Value) (l : List (Int × Int × Int)) (w : World) (hs : s.size ≤ maxLen) (hv : OpsAt w.heap.size w v l) (hl : l.length ≤ maxLen) :
    Calls Try.prog 7 #[.string s, v] w fun e w' => e = .returned (.bool true) ∧ Below w.heap.size w w' := by
  have hs' : s.size ≤ 9223372036854775807 := hs
  have hl' : l.length ≤ 9223372036854775807 := hl
  clear hs hl
  obtain ⟨a, cap, rfl, hc⟩ := hv
  have HC := Lib.hid hc
  clear hc
  have HW := Lib.hid awake_any
  by_cases hz : s.size ≤ 500
  · by_cases hl : l.length ≤ 30
    · have HN := Lib.hid (fun w => wNew_any s w (by omega))
      have HX := Lib.hid (fun w => xNew_any s w (by omega))
      go_enter Try.func7, Try.ntmps7
      go_wp2_with fail
      refine (HN.out _).mono ?_
      rintro e w1 ⟨rfl, hP1, hb1, hs1⟩
      go_wp2_with fail
      refine (HX.out _).mono ?_
      rintro e w2 ⟨rfl, hX2, hb2, hs2⟩
      have hP2 := hP1.below hb2 hP1.lt
      have hb := bt hb1 hb2
      have HS := Lib.hid (And.intro hs1 hs2)
      rw [hs1] at hX2
      rw [hs1]
      clear hs1 hs2 hP1
      go_wp2_with fail
      go_loopw [7] (fun i wr => ∃ k : Nat, k ≤ l.length ∧ i = .int .i64 k ∧ RdP w.heap.size (rSteps (l.take k) ⟨bl s, 0⟩) wr ∧ RdR (w.heap.size + 1) s (rSteps (l.take k) ⟨bl s, 0⟩) wr ∧ Below w.heap.size w wr) (fun i _ => l.length - (intOf i).toNat)
      case atStart => exact ⟨0, Nat.zero_le _, rfl, hP2, hX2, hb⟩
      case round =>
        obtain ⟨k, hk, rfl, hP, hX, hbr⟩ := hrel
        by_cases hlt : k < l.length
        · obtain ⟨b, off, rfl, hbN, hcell⟩ := HC.out (by intro h; rw [h] at hlt; simp at hlt)
          obtain ⟨c0, c1, c2⟩ := hcell k hlt
          have HT := Lib.hid (rSteps_take l k hlt ⟨bl s, 0⟩)
          have d0 := (hbr.cell (p := ⟨b, off + k * 3, none⟩) hbN).trans c0
          have d1 := (hbr.cell (p := ⟨b, off + k * 3 + 1, none⟩) hbN).trans c1
          have d2 := (hbr.cell (p := ⟨b, off + k * 3 + 2, none⟩) hbN).trans c2
          clear hcell c0 c1 c2
          generalize rSteps (l.take k) ⟨bl s, 0⟩ = r at *
          generalize l[k] = q at *
          obtain ⟨q0, q1, q2⟩ := q
          simp only at d0 d1 d2
          have HZ := Lib.hid hbr.size
          go_wp2_with fail
          refine (step_any w.heap.size (w.heap.size + 1) s r q0 q1 q2 _ hP hX (by omega)).mono ?_
          rintro e w3 ⟨rfl, hP3, hX3, hB3⟩
          go_wp2_with fail
          go_roundw
          case rel => exact ⟨k + 1, by omega, by go_num, by rw [HT.out]; exact hP3, by rw [HT.out]; exact hX3, hbr.trans (hB3 _ (Nat.le_refl _) (by omega) HZ.out)⟩
          case measure => simp [intOf]; omega
        · obtain rfl : k = l.length := by omega
          generalize rSteps (l.take l.length) ⟨bl s, 0⟩ = r at *
          go_wp2_with fail
          refine (wEnd_any _ r _ hP).mono ?_
          rintro e w3 ⟨rfl, rfl⟩
          go_wp2_with fail
          refine (xEnd_any _ s r _ hX).mono ?_
          rintro e w3 ⟨rfl, n3, rfl⟩
          go_wp2_with fail
          refine (HW.out _).mono ?_
          rintro e w8 ⟨rfl, hb8⟩
          go_wp2_with fail
          go_ret
          exact ⟨rfl, bt (below_drewN hbr n3) hb8⟩
    · have hli : (30 : Int) < (l.length : Int) := by omega
      go_enter Try.func7, Try.ntmps7
      go_wp2_with fail
      refine (HW.out _).mono ?_
      rintro e w8 ⟨rfl, hb8⟩
      go_wp2_with fail
      go_ret
      exact ⟨rfl, hb8⟩
  · have hzi : (500 : Int) < (s.size : Int) := by omega
    go_enter Try.func7, Try.ntmps7
    go_wp2_with fail
    refine (HW.out _).mono ?_
    rintro e w8 ⟨rfl, hb8⟩
    go_wp2_with fail
    go_ret
    exact ⟨rfl, hb8⟩
end Go.Proofs.Ytapbmbbghbgkfaa
