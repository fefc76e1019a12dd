/-
  The walks of the reader's other methods, the program's.
-/
import Derived.Test.YtapbmbbghbgkfaaWirD
open Go Go.RowKit Go.Proofs
namespace Go.Proofs.Ytapbmbbghbgkfaa
open Hub

set_option maxHeartbeats 1000000 in
theorem wrCount_any (B : Nat) (r : Rs) (m : Int) (w : World) (h : RdP B r w) :
    Calls Try.prog 33 #[.pointer (some ⟨B, 0, none⟩), .int .i64 m] w fun e w' => e = .returned (.int .i64 (rCount m r).1) ∧ RdP B (rCount m r).2 w' ∧ Tch B w w' := by
  have HI := Lib.hid (fun w h => wrInt_any B r w h)
  have hcd : rCount m r = if (rInt r).2.err ≠ 0 then (0, (rInt r).2) else if (rInt r).1 < 0 then (0, { (rInt r).2 with err := 4 }) else if max m 0 < (rInt r).1 then (0, { (rInt r).2 with err := 3 }) else ((rInt r).1, (rInt r).2) := rfl
  generalize rCount m r = o at *
  generalize (rInt r).1 = n at *
  generalize (rInt r).2 = r1 at *
  by_cases he : r1.err = 0
  · have heb : (r1.err != 0) = false := by simpa using he
    rw [if_neg (by omega)] at hcd
    by_cases hn : n < 0
    · rw [if_pos hn] at hcd
      subst hcd
      clear he
      go_enter Try.func33, Try.ntmps33
      go_wp2_with fail
      refine (HI.out _ h).mono ?_
      rintro e w1 ⟨rfl, h1, hk1⟩
      have hc := h1.c1
      have hf := h1.f 1
      have hs := h1.set1 4
      go_wp2_with (go_at_call 32; refine (wErr_any B r1 _ h1).mono ?_; rintro e w2 ⟨rfl, rfl⟩)
      go_ret
      exact ⟨rfl, hs, hk1.setCell 1 _⟩
    · rw [if_neg hn] at hcd
      by_cases hm : max m 0 < n
      · rw [if_pos hm] at hcd
        subst hcd
        clear he
        go_enter Try.func33, Try.ntmps33
        go_wp2_with fail
        refine (HI.out _ h).mono ?_
        rintro e w1 ⟨rfl, h1, hk1⟩
        have hc := h1.c1
        have hf := h1.f 1
        have hs := h1.set1 3
        go_wp2_with (go_at_call 32; refine (wErr_any B r1 _ h1).mono ?_; rintro e w2 ⟨rfl, rfl⟩)
        go_ret
        exact ⟨rfl, hs, hk1.setCell 1 _⟩
      · rw [if_neg hm] at hcd
        subst hcd
        clear he
        go_enter Try.func33, Try.ntmps33
        go_wp2_with fail
        refine (HI.out _ h).mono ?_
        rintro e w1 ⟨rfl, h1, hk1⟩
        go_wp2_with (go_at_call 32; refine (wErr_any B r1 _ h1).mono ?_; rintro e w2 ⟨rfl, rfl⟩)
        go_ret
        exact ⟨rfl, h1, hk1⟩
  · have heb : (r1.err != 0) = true := by simpa using he
    rw [if_pos he] at hcd
    subst hcd
    clear he
    go_enter Try.func33, Try.ntmps33
    go_wp2_with fail
    refine (HI.out _ h).mono ?_
    rintro e w1 ⟨rfl, h1, hk1⟩
    go_wp2_with (go_at_call 32; refine (wErr_any B r1 _ h1).mono ?_; rintro e w2 ⟨rfl, rfl⟩)
    go_ret
    exact ⟨rfl, h1, hk1⟩

set_option maxHeartbeats 1000000 in
theorem wrText_any (B : Nat) (r : Rs) (m : Int) (w : World) (h : RdP B r w) :
    Calls Try.prog 24 #[.pointer (some ⟨B, 0, none⟩), .int .i64 m] w fun e w' => e = .returned (.string (mk (rText m r).1)) ∧ RdP B (rText m r).2 w' ∧ Tch B w w' := by
  have HI := Lib.hid (fun w h => wrCount_any B r m w h)
  have hcd : rText m r = if (rCount m r).2.err ≠ 0 then ([], (rCount m r).2) else if ((rCount m r).2.rest.length : Int) < (rCount m r).1 then ([], { (rCount m r).2 with err := 5 }) else ((rCount m r).2.rest.take (rCount m r).1.toNat, { rest := (rCount m r).2.rest.drop (rCount m r).1.toNat, err := 0 }) := rfl
  have hn0 := rCount_nonneg m r
  generalize rText m r = o at *
  generalize (rCount m r).1 = n at *
  generalize (rCount m r).2 = r1 at *
  by_cases he : r1.err = 0
  · have heb : (r1.err != 0) = false := by simpa using he
    rw [if_neg (by omega)] at hcd
    by_cases hn : (r1.rest.length : Int) < n
    · rw [if_pos hn] at hcd
      subst hcd
      have hn2 : ((mk r1.rest).size : Int) < n := hn
      clear he hn
      go_enter Try.func24, Try.ntmps24
      go_wp2_with fail
      refine (HI.out _ h).mono ?_
      rintro e w1 ⟨rfl, h1, hk1⟩
      have hc0 := h1.c0
      have hc := h1.c1
      have hf := h1.f 1
      have hs := Lib.hid (h1.set1 5)
      have HZ := Lib.hid (fun w h => wErr_any B r1 w h)
      generalize mk r1.rest = K at *
      go_wp2_with (go_at_call 32; refine (HZ.out _ h1).mono ?_; rintro e w2 ⟨rfl, rfl⟩)
      go_ret
      exact ⟨rfl, hs.out, hk1.setCell 1 _⟩
    · rw [if_neg hn] at hcd
      subst hcd
      have hn2 : n ≤ ((mk r1.rest).size : Int) := by show n ≤ (r1.rest.length : Int); omega
      have hn3 : n.toNat ≤ (mk r1.rest).size := by omega
      have HT := Lib.hid (show (mk r1.rest).extract 0 n.toNat = mk (r1.rest.take n.toNat) from bl_inj (by rw [bl_take, bl_mk, bl_mk]))
      have HD := Lib.hid (show (mk r1.rest).extract n.toNat (mk r1.rest).size = mk (r1.rest.drop n.toNat) from bl_inj (by rw [bl_drop, bl_mk, bl_mk]))
      clear hn
      go_enter Try.func24, Try.ntmps24
      go_wp2_with fail
      refine (HI.out _ h).mono ?_
      rintro e w1 ⟨rfl, h1, hk1⟩
      have hc0 := h1.c0
      have hf := h1.f 0
      have hs := Lib.hid (h1.set0 (r1.rest.drop n.toNat) (by have := h1.2; rw [List.length_drop]; omega))
      have HZ := Lib.hid (fun w h => wErr_any B r1 w h)
      have HE := Lib.hid he
      clear he
      generalize mk r1.rest = K at *
      go_wp2_with (go_at_call 32; refine (HZ.out _ h1).mono ?_; rintro e w2 ⟨rfl, rfl⟩)
      rw [HT.out, HD.out]
      go_ret
      exact ⟨rfl, by have := hs.out; rw [HE.out] at this; exact this, hk1.setCell 0 _⟩
  · have heb : (r1.err != 0) = true := by simpa using he
    rw [if_pos he] at hcd
    subst hcd
    clear he
    go_enter Try.func24, Try.ntmps24
    go_wp2_with fail
    refine (HI.out _ h).mono ?_
    rintro e w1 ⟨rfl, h1, hk1⟩
    go_wp2_with (go_at_call 32; refine (wErr_any B r1 _ h1).mono ?_; rintro e w2 ⟨rfl, rfl⟩)
    go_ret
    exact ⟨rfl, h1, hk1⟩

theorem bool_end (c : UInt8) : ((c.toNat : Int) == 1) = decide (c.toNat = 1) := by
  by_cases h : c.toNat = 1 <;> simp [h]; omega

set_option maxHeartbeats 1000000 in
theorem wrBool_any (B : Nat) (r : Rs) (w : World) (h : RdP B r w) :
    Calls Try.prog 25 #[.pointer (some ⟨B, 0, none⟩)] w fun e w' => e = .returned (.bool (rBool r).1) ∧ RdP B (rBool r).2 w' ∧ Tch B w w' := by
  obtain ⟨rest, err⟩ := r
  have h0 := h.c0
  have h1 := h.c1
  have hf0 := h.f 0
  have hf1 := h.f 1
  have HZ := Lib.hid (fun w h => wErr_any B ⟨rest, err⟩ w h)
  simp only at h0 h1
  by_cases he : err = 0
  · have heb : (err != 0) = false := by simpa using he
    cases rest with
    | nil =>
      have hcd : rBool ⟨[], err⟩ = (false, ⟨[], 5⟩) := by simp [rBool, he]
      have hs := h.set1 5
      have h0' : w.cell? ⟨B, 0, none⟩ = some (.string { data := #[] }) := h0
      rw [hcd]; clear hcd h0 he
      go_enter Try.func25, Try.ntmps25
      go_wp2_with (go_at_call 32; refine (HZ.out _ h).mono ?_; rintro e w2 ⟨rfl, rfl⟩)
      go_ret
      exact ⟨rfl, hs, (Tch.refl _ _).setCell 1 _⟩
    | cons c l =>
      have hl := h.2
      have hK : (mk (c :: l)).size = l.length + 1 := rfl
      have hnil : (mk (c :: l)).toList.isEmpty = false := by rw [toList_mk]; rfl
      have hx : ∀ hh : 0 < (mk (c :: l)).size, (mk (c :: l))[0] = c := fun _ => rfl
      have hlt : 0 < (mk (c :: l)).size := by omega
      have hlti : (0 : Int) < ((mk (c :: l)).size : Int) := by omega
      have h1le : (1 : Int) ≤ ((mk (c :: l)).size : Int) := by omega
      have hxd : (mk (c :: l)).extract 1 (mk (c :: l)).size = mk l := bl_inj (by rw [bl_drop, bl_mk, bl_mk]; rfl)
      by_cases hc : 1 < c.toNat
      · have hcd : rBool ⟨c :: l, err⟩ = (false, ⟨c :: l, 4⟩) := by simp [rBool, he, hc]
        have hs := h.set1 4
        rw [hcd]; clear hcd hxd hK
        have hci : (1 : Int) < (c.toNat : Int) := by omega
        clear hc he
        have HS := Lib.hid hs
        clear hs
        generalize mk (c :: l) = K at *
        go_enter Try.func25, Try.ntmps25
        go_wp2_with (go_at_call 32; refine (HZ.out _ h).mono ?_; rintro e w2 ⟨rfl, rfl⟩)
        go_ret
        exact ⟨rfl, HS.out, (Tch.refl _ _).setCell 1 _⟩
      · have hcd : rBool ⟨c :: l, err⟩ = (decide (c.toNat = 1), ⟨l, 0⟩) := by simp only [rBool, he]; simp; omega
        have hs := h.set0 l (by simp at hl; omega)
        rw [hcd, ← bool_end]; clear hcd hK
        have hci : (c.toNat : Int) ≤ 1 := by omega
        clear hc
        have HS := Lib.hid hs
        have HX := Lib.hid hxd
        have HE := Lib.hid he
        clear hs hxd he
        generalize mk (c :: l) = K at *
        go_enter Try.func25, Try.ntmps25
        go_wp2_with (go_at_call 32; refine (HZ.out _ h).mono ?_; rintro e w2 ⟨rfl, rfl⟩)
        rw [HX.out]
        go_ret
        exact ⟨rfl, by have := HS.out; rw [HE.out] at this; exact this, (Tch.refl _ _).setCell 0 _⟩
  · have heb : (err != 0) = true := by simpa using he
    have hcd : rBool ⟨rest, err⟩ = (false, ⟨rest, err⟩) := by rw [rBool, if_pos he]
    rw [hcd]; clear hcd
    clear he
    go_enter Try.func25, Try.ntmps25
    go_wp2_with (go_at_call 32; refine (HZ.out _ h).mono ?_; rintro e w2 ⟨rfl, rfl⟩)
    go_ret
    exact ⟨rfl, h, Tch.refl _ _⟩
end Go.Proofs.Ytapbmbbghbgkfaa
