/-
  Fragments: the walks of what checks an entry, the program's and the reference's.
-/
import Derived.Test.YtmjamjadfnbkdaaFre
import Derived.Deep.QuietTactic
import Derived.BigQuiet
open Go Go.RowKit Go.Proofs
namespace Go.Proofs.Ytmjamjadfnbkdaa
namespace Hub
theorem empty_of {b : ByteArray} (h : b.size = 0) : b = ⟨#[]⟩ := bl_inj (List.length_eq_zero_iff.1 (by rw [size_bl]; exact h))
theorem nempty_of {b : ByteArray} (h : ¬ b.size = 0) : (b.toList == (⟨#[]⟩ : ByteArray).toList) = false := beq_of_ne (fun e => h (by rw [e]; rfl))
theorem nempty_is {b : ByteArray} (h : ¬ b.size = 0) : b.toList.isEmpty = false := by
  rw [toList_bl]
  cases e : bl b with
  | nil => exact absurd (by rw [← size_bl, e]; rfl) h
  | cons c l => rfl
theorem validF_head {p : Pk} (h : headOk p = false) : validF p = false := by unfold validF; rw [h]; rfl
theorem headOk_no {p : Pk} (h : p.id < 0 ∨ 255 < p.id ∨ p.cnt < 2 ∨ 16 < p.cnt ∨ p.since < 0 ∨ 1099511627776 < p.since ∨ (p.hv.length : Int) ≠ p.cnt ∨ (p.dt.length : Int) ≠ p.cnt) : headOk p = false := by
  unfold headOk; simp only [decide_eq_false_iff_not]; omega
theorem headOk_yes {p : Pk} (h0 : ¬ p.id < 0) (h1 : ¬ 255 < p.id) (h2 : ¬ p.cnt < 2) (h3 : ¬ 16 < p.cnt) (h4 : ¬ p.since < 0) (h5 : ¬ 1099511627776 < p.since) (h6 : (p.hv.length : Int) = p.cnt) (h7 : (p.dt.length : Int) = p.cnt) : headOk p = true := by
  unfold headOk; simp only [decide_eq_true_eq]; omega
theorem validF_bad {p : Pk} {k : Nat} (h1 : k < p.hv.length) (h2 : k < p.dt.length) (h : entOk k p.cnt p.hv[k] p.dt[k] = false) : validF p = false := by
  unfold validF
  have : ¬ bodyOk p := fun hb => by
    have := hb k h1
    rw [List.getD_eq_getElem?_getD, List.getD_eq_getElem?_getD, List.getElem?_eq_getElem h1, List.getElem?_eq_getElem h2] at this
    simp only [Option.getD_some] at this
    rw [h] at this; exact absurd this (by decide)
  rw [decide_eq_false this, Bool.and_false, Bool.false_and, Bool.false_and]
theorem validF_end {p : Pk} (hh : headOk p = true) (hl : p.hv.length = p.dt.length) (hall : ∀ j (h1 : j < p.hv.length) (h2 : j < p.dt.length), entOk j p.cnt p.hv[j] p.dt[j] = true) :
    validF p = (decide (0 < arrF p.hv) && decide ((arrF p.hv : Int) < p.cnt)) := by
  unfold validF
  have : bodyOk p := fun j hj => by
    have h2 : j < p.dt.length := by omega
    rw [List.getD_eq_getElem?_getD, List.getD_eq_getElem?_getD, List.getElem?_eq_getElem hj, List.getElem?_eq_getElem h2]
    exact hall j hj h2
  rw [hh, decide_eq_true this, Bool.true_and, Bool.true_and]
theorem arr_step (l : List Bool) (k : Nat) (h : k < l.length) : arrF (l.take (k + 1)) = arrF (l.take k) + (if l[k] = true then 1 else 0) := by
  unfold arrF
  rw [List.take_succ_eq_append_getElem h, List.count_append, List.count_singleton]
  cases l[k] <;> rfl
theorem arr_two (l : List Bool) (k : Nat) (h : k < l.length) : (l[k] = true → arrF (l.take (k + 1)) = arrF (l.take k) + 1) ∧ (l[k] = false → arrF (l.take (k + 1)) = arrF (l.take k)) := by
  have := arr_step l k h
  exact ⟨fun e => by rw [this, if_pos e], fun e => by rw [this, if_neg (by rw [e]; decide)]; rfl⟩
theorem arr_all (l : List Bool) (n : Nat) (h : l.length = n) : arrF (l.take n) = arrF l := by rw [List.take_of_length_le (by omega)]
theorem arr_le (l : List Bool) (k : Nat) : arrF (l.take k) ≤ k := by
  unfold arrF
  have h1 := List.count_le_length (a := true) (l := l.take k)
  have h2 : (l.take k).length ≤ k := by simp; omega
  omega
end Hub
open Hub

set_option maxRecDepth 20000 in
set_option maxHeartbeats 2000000 in
theorem valid_any (p : Pt) (lo N : Nat) (w : World) (hh : BoolsAt lo N w p.vh p.pk.hv) (hd : StrsAt lo N w p.vd p.pk.dt) (hN : N ≤ w.heap.size) :
    Calls Try.prog 36 #[ptv p] w fun e w' => e = .returned (.bool (validF p.pk)) ∧ Below w.heap.size w w' := by
  have hX : PBox w.heap.size p (w.alloc (.cells #[.int .i64 p.pk.src, .int .i64 p.pk.id, .int .i64 p.pk.cnt, .int .i64 p.pk.since, p.vh, p.vd] 44)) := PBox.new w p
  have hb0 := below_box w (.cells #[.int .i64 p.pk.src, .int .i64 p.pk.id, .int .i64 p.pk.cnt, .int .i64 p.pk.since, p.vh, p.vd] 44)
  have HH := Lib.hid (hh.below hb0 hN)
  have HD := Lib.hid (hd.below hb0 hN)
  obtain ⟨ah, ch, hvh, -, -⟩ := hh
  obtain ⟨ad, cd, hvd, -, -⟩ := hd
  obtain ⟨p, vh, vd⟩ := p
  dsimp only at *
  have HNo := Lib.hid (fun h => validF_head (p := p) (headOk_no h))
  have HBad := Lib.hid (fun (k : Nat) h1 h2 h => validF_bad (p := p) (k := k) h1 h2 h)
  unfold ptv
  dsimp only
  subst hvh hvd
  by_cases h0 : p.id < 0
  · have d0 : decide (p.id < 0) = true := decide_eq_true h0
    rw [HNo.out (Or.inl h0)]
    clear HNo HBad HH HD hX h0
    go_enter Try.func36, Try.ntmps36
    go_wp2_with fail
    go_ret
    exact ⟨rfl, hb0⟩
  have d0 : decide (p.id < 0) = false := decide_eq_false h0
  by_cases h1 : 255 < p.id
  · have d1 : decide (255 < p.id) = true := decide_eq_true h1
    rw [HNo.out (Or.inr (Or.inl h1))]
    clear HNo HBad HH HD hX h1
    go_enter Try.func36, Try.ntmps36
    go_wp2_with fail
    go_ret
    exact ⟨rfl, hb0⟩
  have d1 : decide (255 < p.id) = false := decide_eq_false h1
  by_cases h2 : p.cnt < 2
  · have d2 : decide (p.cnt < 2) = true := decide_eq_true h2
    rw [HNo.out (Or.inr (Or.inr (Or.inl h2)))]
    clear HNo HBad HH HD hX h2
    go_enter Try.func36, Try.ntmps36
    go_wp2_with fail
    go_ret
    exact ⟨rfl, hb0⟩
  have d2 : decide (p.cnt < 2) = false := decide_eq_false h2
  by_cases h3 : 16 < p.cnt
  · have d3 : decide (16 < p.cnt) = true := decide_eq_true h3
    rw [HNo.out (Or.inr (Or.inr (Or.inr (Or.inl h3))))]
    clear HNo HBad HH HD hX h3
    go_enter Try.func36, Try.ntmps36
    go_wp2_with fail
    go_ret
    exact ⟨rfl, hb0⟩
  have d3 : decide (16 < p.cnt) = false := decide_eq_false h3
  by_cases h4 : p.since < 0
  · have d4 : decide (p.since < 0) = true := decide_eq_true h4
    rw [HNo.out (Or.inr (Or.inr (Or.inr (Or.inr (Or.inl h4)))))]
    clear HNo HBad HH HD hX h4
    go_enter Try.func36, Try.ntmps36
    go_wp2_with fail
    go_ret
    exact ⟨rfl, hb0⟩
  have d4 : decide (p.since < 0) = false := decide_eq_false h4
  by_cases h5 : 1099511627776 < p.since
  · have d5 : decide (1099511627776 < p.since) = true := decide_eq_true h5
    rw [HNo.out (Or.inr (Or.inr (Or.inr (Or.inr (Or.inr (Or.inl h5))))))]
    clear HNo HBad HH HD hX h5
    go_enter Try.func36, Try.ntmps36
    go_wp2_with fail
    go_ret
    exact ⟨rfl, hb0⟩
  have d5 : decide (1099511627776 < p.since) = false := decide_eq_false h5
  by_cases h6 : (p.hv.length : Int) ≠ p.cnt
  · have d6 : ((p.hv.length : Int) != p.cnt) = true := by simpa using h6
    rw [HNo.out (Or.inr (Or.inr (Or.inr (Or.inr (Or.inr (Or.inr (Or.inl h6)))))))]
    clear HNo HBad HH HD hX h6
    generalize p.hv.length = nh at *
    generalize p.dt.length = nd at *
    go_enter Try.func36, Try.ntmps36
    go_wp2_with fail
    go_ret
    exact ⟨rfl, hb0⟩
  have d6 : ((p.hv.length : Int) != p.cnt) = false := by simpa using h6
  by_cases h7 : (p.dt.length : Int) ≠ p.cnt
  · have d7 : ((p.dt.length : Int) != p.cnt) = true := by simpa using h7
    rw [HNo.out (Or.inr (Or.inr (Or.inr (Or.inr (Or.inr (Or.inr (Or.inr (h7))))))))]
    clear HNo HBad HH HD hX h7
    generalize p.hv.length = nh at *
    generalize p.dt.length = nd at *
    go_enter Try.func36, Try.ntmps36
    go_wp2_with fail
    go_ret
    exact ⟨rfl, hb0⟩
  have d7 : ((p.dt.length : Int) != p.cnt) = false := by simpa using h7
  have HEnd := Lib.hid (fun h => validF_end (p := p) (headOk_yes h0 h1 h2 h3 h4 h5 (by omega) (by omega)) (by omega) h)
  obtain ⟨n, hn⟩ : ∃ n, p.hv.length = n := ⟨_, rfl⟩
  have hn2 : p.dt.length = n := by omega
  have hc : p.cnt = (n : Int) := by omega
  have hn16 : n ≤ 16 := by omega
  have HF := Lib.hid (fun (i : Nat) (x : ByteArray) W (h : i < n) => fits_any (i : Int) p.cnt (x.size : Int) W (by omega) (by omega))
  have HArr := Lib.hid (fun k h => arr_two p.hv k h)
  have HAll := Lib.hid (arr_all p.hv n hn)
  have HLe := Lib.hid (fun k => arr_le p.hv k)
  generalize validF p = R at *
  have Hn := Lib.hid hn
  have Hn2 := Lib.hid hn2
  rw [hc] at HBad HEnd HF d2 d3 hX hb0 HH HD
  rw [hn] at hX hb0 HH HD
  rw [hn2] at hX hb0 HH HD
  have hc2 := hc
  rw [hc, hn, hn2]
  generalize p.src = sr at *
  generalize p.since = si at *
  generalize p.id = ii at *
  clear h0 h1 h2 h3 h4 h5 h6 h7 d6 d7 hn hn2 HNo hc
  go_enter Try.func36, Try.ntmps36
  go_wp2_with fail
  generalize w.alloc (.cells #[.int .i64 sr, .int .i64 ii, .int .i64 n, .int .i64 si, .slice ah n ch, .slice ad n cd] 44) = W0 at *
  have HX := Lib.hid hX
  have Hb0 := Lib.hid hb0
  have HNW := Lib.hid (Nat.le_trans hN hb0.size)
  have Hc2 := Lib.hid hc2
  clear hb0 hX hc2
  go_loopw [3, 53] (fun a i wr => ∃ k : Nat, k ≤ n ∧ i = .int .i64 k ∧ a = .int .i64 ((arrF (p.hv.take k) : Nat) : Int) ∧ (∀ j (h1 : j < p.hv.length) (h2 : j < p.dt.length), j < k → entOk j (n : Int) p.hv[j] p.dt[j] = true) ∧ Below W0.heap.size W0 wr) (fun a i _ => n - (intOf i).toNat)
  case atStart => exact ⟨0, Nat.zero_le _, rfl, rfl, fun j _ _ h => by omega, Below.refl _ _⟩
  case round =>
    obtain ⟨k, hk, rfl, rfl, hall, hb⟩ := hrel
    obtain ⟨-, c0, c1, c2, c3, c4, c5⟩ := (HX.out.below hb HX.out.lt).six ⟨⟨_, _, _, rfl⟩, _, _, _, rfl⟩
    dsimp only at c0 c1 c2 c3 c4 c5
    rw [Hc2.out] at c2
    have hle := HLe.out k
    by_cases hlt : k < n
    · have hkh : k < p.hv.length := by rw [Hn.out]; exact hlt
      have hkd : k < p.dt.length := by rw [Hn2.out]; exact hlt
      have hki : (k : Int) < (n : Int) := by omega
      obtain ⟨_, _, eh, _, hch⟩ := HH.out.below hb HNW.out
      obtain ⟨_, _, ed, _, hcd⟩ := HD.out.below hb HNW.out
      simp only [Value.slice.injEq] at eh ed
      obtain ⟨rfl, -, rfl⟩ := eh
      obtain ⟨rfl, -, rfl⟩ := ed
      obtain ⟨bh, oh, rfl, _, hbh, hch⟩ := hch (by intro e; rw [e] at hkh; simp at hkh)
      obtain ⟨bd, od, rfl, _, hbd, hcd⟩ := hcd (by intro e; rw [e] at hkd; simp at hkd)
      have e1 := hch k hkh
      have e2 := hcd k hkd
      have HStep := HArr.out k hkh
      have HB := Lib.hid (fun h => HBad.out k hkh hkd h)
      have HA := Lib.hid (fun (h : entOk k (n : Int) p.hv[k] p.dt[k] = true) j (h1 : j < p.hv.length) (h2 : j < p.dt.length) (hj : j < k + 1) => (show entOk j (n : Int) p.hv[j] p.dt[j] = true from by
        by_cases e2 : j = k
        · subst e2; exact h
        · exact hall j h1 h2 (by omega)))
      have HFk := Lib.hid (fun x W => HF.out k x W hlt)
      have HS := Lib.hid HStep
      have Hb := Lib.hid hb
      clear hall hch hcd HStep hb
      generalize p.hv[k] = x at *
      generalize p.dt[k] = d at *
      generalize arrF (p.hv.take k) = A at *
      have w1 : wrap64 ((A : Int) + 1) = (A : Int) + 1 := IntWalk.wrap64_in _ ⟨by omega, by omega⟩
      have W1 := Lib.hid w1
      unfold entOk at HB HA
      clear hkh hkd hle w1
      cases x with
      | false =>
        simp only [Bool.false_eq_true, if_false] at HB HA
        have HS2 := Lib.hid (HS.out.2 rfl)
        clear HS
        by_cases hz : d.size = 0
        · obtain rfl := empty_of hz
          have HA2 := Lib.hid (HA.out rfl)
          clear HA HB
          go_wp2_with fail
          go_quiet (fail)
          go_wp2_with fail
          go_roundw
          case rel => exact ⟨k + 1, by omega, by go_num, by rw [HS2.out], HA2.out, Below.drewN' Hb.out _⟩
          case measure => simp [intOf]; omega
        · have hne := nempty_of hz
          have hne2 := nempty_is hz
          have hR := HB.out (by simpa using hz)
          subst hR
          clear HA HB
          go_wp2_with fail
          go_quiet (fail)
          go_wp2_with fail
          go_ret
          exact ⟨rfl, bt Hb0.out (Below.drewN' Hb.out _)⟩
      | true =>
        simp only [if_true] at HB HA
        have HS2 := Lib.hid (HS.out.1 rfl)
        clear HS
        have HFd := Lib.hid (HFk.out d)
        cases hf : fitsF (k : Int) (n : Int) (d.size : Int) with
        | true =>
          rw [hf] at HFd
          have HA2 := Lib.hid (HA.out hf)
          clear HA HB hf
          go_wp2_with fail
          go_quiet ((go_at_call 23; exact quiet_ret (HFd.out _)))
          go_wp2_with fail
          go_roundw
          case rel => exact ⟨k + 1, by omega, by go_num, by rw [HS2.out, W1.out]; rfl, HA2.out, Below.drewN' Hb.out _⟩
          case measure => simp [intOf]; omega
        | false =>
          rw [hf] at HFd
          have hR := HB.out hf
          subst hR
          clear HA HB hf
          go_wp2_with fail
          go_quiet ((go_at_call 23; exact quiet_ret (HFd.out _)))
          go_wp2_with fail
          go_ret
          exact ⟨rfl, bt Hb0.out (Below.drewN' Hb.out _)⟩
    · obtain rfl : k = n := by omega
      have hki : ¬ (k : Int) < (k : Int) := by omega
      have hR := HEnd.out (fun j h1 h2 => hall j h1 h2 (by rw [Hn.out] at h1; exact h1))
      rw [← HAll.out] at hR
      clear hall
      generalize arrF (p.hv.take k) = A at *
      have Hb := Lib.hid hb
      clear hb
      by_cases hA0 : 0 < A
      · have da : decide ((0 : Int) < (A : Int)) = true := decide_eq_true (by omega)
        rw [decide_eq_true hA0, Bool.true_and] at hR
        subst hR
        go_wp2_with fail
        go_ret
        exact ⟨rfl, bt Hb0.out Hb.out⟩
      · have da : decide ((0 : Int) < (A : Int)) = false := decide_eq_false (by omega)
        rw [decide_eq_false hA0, Bool.false_and] at hR
        subst hR
        go_wp2_with fail
        go_ret
        exact ⟨rfl, bt Hb0.out Hb.out⟩
end Go.Proofs.Ytmjamjadfnbkdaa
