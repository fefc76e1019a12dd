/-
  Fragments: lists of entries are compared, and looked at for being few: the walks.
-/
import Derived.Test.YtmjamjadfnbkdaaFsl
open Go Go.RowKit Go.Proofs
namespace Go.Proofs.Ytmjamjadfnbkdaa
namespace Hub
def fewF (l : List Pk) : Bool := decide (l.length ≤ 20) && l.all fun p => decide (p.hv.length ≤ 20) && decide (p.dt.length ≤ 20)
theorem fewF_no {l : List Pk} {k : Nat} (hk : k < l.length) (h : 20 < l[k].hv.length ∨ 20 < l[k].dt.length) : fewF l = false := by
  unfold fewF
  rw [show (l.all fun p => decide (p.hv.length ≤ 20) && decide (p.dt.length ≤ 20)) = false from by
    rw [List.all_eq_false]
    exact ⟨l[k], List.getElem_mem hk, by simp; omega⟩]
  simp
theorem fewF_yes {l : List Pk} (h : l.length ≤ 20) (h2 : ∀ k (hk : k < l.length), l[k].hv.length ≤ 20 ∧ l[k].dt.length ≤ 20) : fewF l = true := by
  unfold fewF
  rw [decide_eq_true h, Bool.true_and, List.all_eq_true]
  intro p hp
  obtain ⟨k, hk, rfl⟩ := List.getElem_of_mem hp
  have := h2 k hk
  simp; omega
theorem fewF_len {l : List Pk} (h : fewF l = true) : l.length ≤ 20 := by
  unfold fewF at h; simp at h; exact h.1
end Hub
open Hub

set_option maxHeartbeats 2000000 in
theorem few_any (v : Value) (l : List Pt) (lo N : Nat) (w : World) (hv : PtsAt lo N w v l) (hN : N ≤ w.heap.size) :
    Calls Try.prog 17 #[v] w fun e w' => e = .returned (.bool (fewF (l.map Pt.pk))) ∧ Below w.heap.size w w' := by
  obtain ⟨n, hn⟩ : ∃ n, l.length = n := ⟨_, rfl⟩
  have HR := Lib.hid (fun w' (k : Below w.heap.size w w') => hv.1.below k hN)
  have HD := Lib.hid (fun p (hp : p ∈ l) => (hv.2 p hp))
  have HNo := Lib.hid (fun (k : Nat) h1 h2 => fewF_no (l := l.map Pt.pk) (k := k) h1 h2)
  have HYes := Lib.hid (fun h1 h2 => fewF_yes (l := l.map Pt.pk) h1 h2)
  have HBig := Lib.hid (fun h : ¬ n ≤ 20 => (show fewF (l.map Pt.pk) = false by unfold fewF; rw [decide_eq_false (by rw [List.length_map, hn]; exact h), Bool.false_and]))
  generalize fewF (l.map Pt.pk) = R at *
  obtain ⟨⟨a, cap, rfl, -⟩, -⟩ := hv
  have Hn := Lib.hid hn
  rw [hn] at HR ⊢
  clear hn
  by_cases h20 : n ≤ 20
  · have h20i : ¬ (20 : Int) < (n : Int) := by omega
    clear HBig
    go_enter Try.func17, Try.ntmps17
    go_wp2_with fail
    go_loopw [10] (fun q wr => ∃ k : Nat, k ≤ n ∧ q = .int .i64 k ∧ (∀ j (hj : j < l.length), j < k → l[j].pk.hv.length ≤ 20 ∧ l[j].pk.dt.length ≤ 20) ∧ Below w.heap.size w wr) (fun q _ => n - (intOf q).toNat)
    case atStart => exact ⟨0, Nat.zero_le _, rfl, fun j _ h => by omega, Below.refl _ _⟩
    case round =>
      obtain ⟨k, hk, rfl, hall, hb⟩ := hrel
      by_cases hlt : k < n
      · have hkl : k < l.length := by rw [Hn.out]; exact hlt
        have hki : (k : Int) < (n : Int) := by omega
        obtain ⟨bk, off, rfl, _, hbk, ⟨⟨xa, xn, xc, hvh⟩, ya, yn, yc, hvd⟩, c0, c1, c2, c3, c4, c5⟩ := (HR.out wr hb).cells hkl
        obtain ⟨⟨_, _, eh, -, -⟩, ⟨_, _, ed, -, -⟩⟩ := HD.out _ (List.getElem_mem hkl)
        have HB := Lib.hid (fun (h : 20 < l[k].pk.hv.length ∨ 20 < l[k].pk.dt.length) => HNo.out k (by rw [List.length_map]; exact hkl) (by rw [List.getElem_map]; exact h))
        have HA := Lib.hid (fun (h : l[k].pk.hv.length ≤ 20 ∧ l[k].pk.dt.length ≤ 20) j (hj : j < l.length) (hjk : j < k + 1) => (show l[j].pk.hv.length ≤ 20 ∧ l[j].pk.dt.length ≤ 20 from by
          by_cases e2 : j = k
          · subst e2; exact h
          · exact hall j hj (by omega)))
        have Hb := Lib.hid hb
        have HBx := Lib.hid (fun o => below_box wr o)
        have hbx : bk < wr.heap.size := Nat.lt_of_lt_of_le hbk (Nat.le_trans hN hb.size)
        clear hall hb
        generalize l[k] = p at *
        obtain ⟨p, vh, vd⟩ := p
        dsimp only at hvh hvd c0 c1 c2 c3 c4 c5 eh ed HA HB
        subst hvh hvd
        simp only [Value.slice.injEq] at eh ed
        obtain ⟨rfl, rfl, rfl⟩ := eh
        obtain ⟨rfl, rfl, rfl⟩ := ed
        generalize p.hv.length = nh at *
        generalize p.dt.length = nd at *
        by_cases g1 : 20 < nh
        · have d1 : decide ((20 : Int) < (nh : Int)) = true := decide_eq_true (by omega)
          have hR := HB.out (.inl g1)
          subst hR
          clear HA HB
          go_wp2_with fail
          go_ret
          exact ⟨rfl, bt Hb.out (HBx.out _)⟩
        · have d1 : decide ((20 : Int) < (nh : Int)) = false := decide_eq_false (by omega)
          by_cases g2 : 20 < nd
          · have d2 : decide ((20 : Int) < (nd : Int)) = true := decide_eq_true (by omega)
            have hR := HB.out (.inr g2)
            subst hR
            clear HA HB
            go_wp2_with fail
            go_ret
            exact ⟨rfl, bt Hb.out (HBx.out _)⟩
          · have d2 : decide ((20 : Int) < (nd : Int)) = false := decide_eq_false (by omega)
            have HA2 := Lib.hid (HA.out ⟨by omega, by omega⟩)
            clear HA HB
            go_wp2_with fail
            exact ⟨⟨k + 1, by omega, by go_num, HA2.out, bt Hb.out (HBx.out _)⟩, by simp [intOf]; omega⟩
      · obtain rfl : k = n := by omega
        have hR := HYes.out (by rw [List.length_map, Hn.out]; exact h20) (fun j hj => by rw [List.getElem_map]; exact hall j (by rw [List.length_map] at hj; exact hj) (by rw [List.length_map, Hn.out] at hj; exact hj))
        subst hR
        have Hb := Lib.hid hb
        clear hall hb
        go_wp2_with fail
        go_ret
        exact ⟨rfl, Hb.out⟩
  · have h20i : (20 : Int) < (n : Int) := by omega
    have hR := HBig.out h20
    subst hR
    clear h20 HR HD HNo HYes HBig
    go_enter Try.func17, Try.ntmps17
    go_wp2_with fail
    go_ret
    exact ⟨rfl, Below.refl _ _⟩
end Go.Proofs.Ytmjamjadfnbkdaa
