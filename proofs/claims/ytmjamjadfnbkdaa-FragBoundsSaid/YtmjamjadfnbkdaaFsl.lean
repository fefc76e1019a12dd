/-
  Fragments: lists of entries with the same data are told to be the same: the walks; what looks whether there are few.
-/
import Derived.Test.YtmjamjadfnbkdaaFrj
import Derived.Test.YtmjamjadfnbkdaaFrc
open Go Go.RowKit Go.Proofs
namespace Go.Proofs.Ytmjamjadfnbkdaa
open Hub

set_option maxRecDepth 20000 in
set_option maxHeartbeats 2000000 in
theorem sameParts_any (p q : Pt) (lo N lo' N' : Nat) (w : World) (hq : q.pk = p.pk) (hp1 : BoolsAt lo N w p.vh p.pk.hv) (hp2 : StrsAt lo N w p.vd p.pk.dt) (hq1 : BoolsAt lo' N' w q.vh q.pk.hv) (hq2 : StrsAt lo' N' w q.vd q.pk.dt) (hN : N ≤ w.heap.size) (hN' : N' ≤ w.heap.size)
    (hl : p.pk.hv.length ≤ 1000) (hl2 : p.pk.dt.length ≤ 1000) :
    Calls Try.prog 35 #[ptv p, ptv q] w fun e w' => e = .returned (.bool true) ∧ Below w.heap.size w w' := by
  obtain ⟨p, vh, vd⟩ := p
  obtain ⟨q, uh, ud⟩ := q
  dsimp only at *
  subst hq
  obtain ⟨W0, hW0⟩ : ∃ W, W = w.alloc (.cells #[.int .i64 q.src, .int .i64 q.id, .int .i64 q.cnt, .int .i64 q.since, vh, vd] 44) := ⟨_, rfl⟩
  obtain ⟨W1, hW1⟩ : ∃ W, W = W0.alloc (.cells #[.int .i64 q.src, .int .i64 q.id, .int .i64 q.cnt, .int .i64 q.since, uh, ud] 44) := ⟨_, rfl⟩
  have e0 : W0.heap.size = w.heap.size + 1 := by rw [hW0]; exact World.size_alloc ..
  have t0 : Below w.heap.size w W0 := by rw [hW0]; exact below_box _ _
  have t1 : Below W0.heap.size W0 W1 := by rw [hW1]; exact below_box _ _
  have k1 := bt t0 t1
  have hX0 : PBox w.heap.size ⟨q, vh, vd⟩ W0 := by rw [hW0]; exact PBox.new w ⟨q, vh, vd⟩
  have hX := hX0.below t1 hX0.lt
  have hY : PBox (w.heap.size + 1) ⟨q, uh, ud⟩ W1 := by rw [hW1, ← e0]; exact PBox.new W0 ⟨q, uh, ud⟩
  have HH := Lib.hid (fun w' (t : Below W1.heap.size W1 w') => (hp1.below (bt k1 t) hN))
  have HH' := Lib.hid (fun w' (t : Below W1.heap.size W1 w') => (hq1.below (bt k1 t) hN'))
  have HS := Lib.hid (fun w' (t : Below W1.heap.size W1 w') => (show Calls Try.prog 14 #[vd, ud] w' fun e w'' => e = .returned (.bool true) ∧ ∃ n, w'' = w'.drewN n from by
    have := pieces_any vd ud q.dt q.dt lo N lo' N' w' (hp2.below (bt k1 t) hN) (hq2.below (bt k1 t) hN') (by omega)
    rw [decide_eq_true rfl] at this; exact this))
  obtain ⟨ah, ch, rfl, -, -⟩ := hp1
  obtain ⟨ah', ch', rfl, -, -⟩ := hq1
  obtain ⟨ad, cd, rfl, -, -⟩ := hp2
  obtain ⟨ad', cd', rfl, -, -⟩ := hq2
  have HX := Lib.hid (fun w' (t : Below W1.heap.size W1 w') => (hX.below t hX.lt).six ⟨⟨_, _, _, rfl⟩, _, _, _, rfl⟩)
  have HY := Lib.hid (fun w' (t : Below W1.heap.size W1 w') => (hY.below t hY.lt).six ⟨⟨_, _, _, rfl⟩, _, _, _, rfl⟩)
  have K1 := Lib.hid k1
  have HWW := Lib.hid (show W1 = (w.alloc (.cells #[.int .i64 q.src, .int .i64 q.id, .int .i64 q.cnt, .int .i64 q.since, .slice ah q.hv.length ch, .slice ad q.dt.length cd] 44)).alloc (.cells #[.int .i64 q.src, .int .i64 q.id, .int .i64 q.cnt, .int .i64 q.since, .slice ah' q.hv.length ch', .slice ad' q.dt.length cd'] 44) by rw [hW1, hW0])
  obtain ⟨n, hn⟩ : ∃ n, q.hv.length = n := ⟨_, rfl⟩
  have Hn := Lib.hid hn
  have hn1000 : n ≤ 1000 := by omega
  unfold ptv
  dsimp only
  rw [hn] at HH HH' HX HY HWW ⊢
  obtain ⟨-, x0, x1, x2, x3, x4, x5⟩ := HX.out W1 (Below.refl _ _)
  obtain ⟨-, y0, y1, y2, y3, y4, y5⟩ := HY.out W1 (Below.refl _ _)
  dsimp only [Nat.zero_add] at x0 x1 x2 x3 x4 x5 y0 y1 y2 y3 y4 y5
  rw [HWW.out] at x0 x1 x2 x3 x4 x5 y0 y1 y2 y3 y4 y5
  clear hW0 hW1 e0 t0 t1 k1 hX0 hX hY hn hl hl2
  go_enter Try.func35, Try.ntmps35
  go_wp2_with fail
  rw [← HWW.out]
  clear x0 x1 x2 x3 x4 x5 y0 y1 y2 y3 y4 y5
  go_loopw [44] (fun i wr => ∃ k : Nat, k ≤ n ∧ i = .int .i64 k ∧ Below W1.heap.size W1 wr) (fun i _ => n - (intOf i).toNat)
  case atStart => exact ⟨0, Nat.zero_le _, rfl, Below.refl _ _⟩
  case round =>
    obtain ⟨k, hk, rfl, hb⟩ := hrel
    obtain ⟨-, x0, x1, x2, x3, x4, x5⟩ := HX.out wr hb
    obtain ⟨-, y0, y1, y2, y3, y4, y5⟩ := HY.out wr hb
    dsimp only [Nat.zero_add] at x0 x1 x2 x3 x4 x5 y0 y1 y2 y3 y4 y5
    by_cases hlt : k < n
    · have hkh : k < q.hv.length := by rw [Hn.out]; exact hlt
      have hki : (k : Int) < (n : Int) := by omega
      obtain ⟨_, _, eh, _, hch⟩ := HH.out wr hb
      obtain ⟨_, _, eh', _, hch'⟩ := HH'.out wr hb
      simp only [Value.slice.injEq] at eh eh'
      obtain ⟨rfl, -, rfl⟩ := eh
      obtain ⟨rfl, -, rfl⟩ := eh'
      obtain ⟨bh, oh, rfl, _, hbh, hch⟩ := hch (by intro e; rw [e] at hkh; simp at hkh)
      obtain ⟨bh', oh', rfl, _, hbh', hch'⟩ := hch' (by intro e; rw [e] at hkh; simp at hkh)
      have e1 := hch k hkh
      have e2 := hch' k hkh
      have Hb := Lib.hid hb
      clear hch hch' hb
      generalize q.hv[k] = x at *
      clear hkh
      cases x
      all_goals
        go_wp2_with fail
        go_quiet (fail)
        go_wp2_with fail
        exact ⟨⟨k + 1, by omega, by go_num, Below.drewN' Hb.out _⟩, by simp [intOf]; omega⟩
    · obtain rfl : k = n := by omega
      have HSr := Lib.hid (HS.out wr hb)
      have Hb := Lib.hid hb
      clear hb
      go_wp2_with fail
      refine HSr.out.mono ?_
      rintro e w5 ⟨rfl, m, rfl⟩
      go_wp2_with fail
      go_ret
      exact ⟨rfl, bt K1.out (Below.drewN' Hb.out m)⟩
end Go.Proofs.Ytmjamjadfnbkdaa
