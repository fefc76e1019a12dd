/-
  Fragments: the walk of what tells whether all pieces have arrived, the reference's.
-/
import Derived.Test.YtmjamjadfnbkdaaFsb
open Go Go.RowKit Go.Proofs
namespace Go.Proofs.Ytmjamjadfnbkdaa
namespace Hub
theorem wholeP_no {p : Pk} {k : Nat} (h : k < p.hv.length) (e : p.hv[k] = false) : wholeP p = false := by
  unfold wholeP
  rw [List.all_eq_false]
  exact ⟨_, List.getElem_mem h, by rw [e]; decide⟩
theorem wholeP_yes {p : Pk} (h : ∀ k (hk : k < p.hv.length), p.hv[k] = true) : wholeP p = true := by
  unfold wholeP
  rw [List.all_eq_true]
  intro x hx
  obtain ⟨k, hk, rfl⟩ := List.getElem_of_mem hx
  exact h k hk
end Hub
open Hub

set_option maxHeartbeats 1000000 in
theorem whole_any (p : Pt) (lo N : Nat) (w : World) (hh : BoolsAt lo N w p.vh p.pk.hv) (hsd : ∃ a n c, p.vd = .slice a n c) (hN : N ≤ w.heap.size) (hl : p.pk.hv.length ≤ 1000) :
    Calls Try.prog 34 #[ptv p] w fun e w' => e = .returned (.bool (wholeP p.pk)) ∧ Below w.heap.size w w' := by
  have hX : PBox w.heap.size p (w.alloc (.cells #[.int .i64 p.pk.src, .int .i64 p.pk.id, .int .i64 p.pk.cnt, .int .i64 p.pk.since, p.vh, p.vd] 44)) := PBox.new w p
  have hb0 := below_box w (.cells #[.int .i64 p.pk.src, .int .i64 p.pk.id, .int .i64 p.pk.cnt, .int .i64 p.pk.since, p.vh, p.vd] 44)
  have HH := Lib.hid (hh.below hb0 hN)
  obtain ⟨ah, ch, hvh, -, -⟩ := hh
  obtain ⟨ad, nd, cd, hvd⟩ := hsd
  obtain ⟨p, vh, vd⟩ := p
  dsimp only at *
  have HNo := Lib.hid (fun (k : Nat) h e => wholeP_no (p := p) (k := k) h e)
  have HYes := Lib.hid (fun h => wholeP_yes (p := p) h)
  unfold ptv
  dsimp only
  subst hvh hvd
  obtain ⟨n, hn⟩ : ∃ n, p.hv.length = n := ⟨_, rfl⟩
  have Hn := Lib.hid hn
  rw [hn] at HH hX hb0 hl ⊢
  have HX := Lib.hid hX
  have Hb0 := Lib.hid hb0
  generalize wholeP p = R at *
  obtain ⟨-, c0, c1, c2, c3, c4, c5⟩ := hX.six ⟨⟨_, _, _, rfl⟩, _, _, _, rfl⟩
  clear hn hX hb0
  go_enter Try.func34, Try.ntmps34
  go_wp2_with fail
  generalize w.alloc (.cells #[.int .i64 p.src, .int .i64 p.id, .int .i64 p.cnt, .int .i64 p.since, .slice ah n ch, .slice ad nd cd] 44) = W0 at *
  go_loop [7] (fun i => ∃ k : Nat, k ≤ n ∧ i = .int .i64 k ∧ ∀ j (hj : j < p.hv.length), j < k → p.hv[j] = true) (fun i => n - (intOf i).toNat)
  case atStart => exact ⟨0, Nat.zero_le _, rfl, fun j _ h => by omega⟩
  case round =>
    obtain ⟨k, hk, rfl, hall⟩ := hrel
    by_cases hlt : k < n
    · have hkh : k < p.hv.length := by rw [Hn.out]; exact hlt
      have hki : (k : Int) < (n : Int) := by omega
      obtain ⟨_, _, eh, _, hch⟩ := HH.out
      simp only [Value.slice.injEq] at eh
      obtain ⟨rfl, -, rfl⟩ := eh
      obtain ⟨bh, oh, rfl, _, hbh, hch⟩ := hch (by intro e; rw [e] at hkh; simp at hkh)
      have e1 := hch k hkh
      have HB := Lib.hid (fun h => HNo.out k hkh h)
      have HA := Lib.hid (fun (h : p.hv[k] = true) j (h1 : j < p.hv.length) (hj : j < k + 1) => (show p.hv[j] = true from by
        by_cases e2 : j = k
        · subst e2; exact h
        · exact hall j h1 (by omega)))
      clear hall hch
      generalize p.hv[k] = x at *
      clear hkh
      cases x with
      | false =>
        have hR := HB.out rfl
        subst hR
        clear HA HB
        go_wp2_with fail
        go_ret
        exact ⟨rfl, Hb0.out⟩
      | true =>
        have HA2 := Lib.hid (HA.out rfl)
        clear HA HB
        go_wp2_with fail
        exact ⟨⟨k + 1, by omega, by go_num, HA2.out⟩, by simp [intOf]; omega⟩
    · obtain rfl : k = n := by omega
      have hR := HYes.out (fun j h1 => hall j h1 (by rw [Hn.out] at h1; exact h1))
      subst hR
      clear hall
      go_wp2_with fail
      go_ret
      exact ⟨rfl, Hb0.out⟩
end Go.Proofs.Ytmjamjadfnbkdaa
