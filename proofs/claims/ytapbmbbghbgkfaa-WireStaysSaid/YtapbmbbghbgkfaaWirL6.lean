/-
  The walk of the sixth law: the first error stays.
-/
import Derived.Test.YtapbmbbghbgkfaaWirL5b
open Go Go.RowKit Go.Proofs
namespace Go.Proofs.Ytapbmbbghbgkfaa
namespace Hub
theorem RdP.other {B b o : Nat} {r : Rs} {w : World} {v : Value} (h : RdP B r w) (hn : b ≠ B) : RdP B r (w.setCell ⟨b, o, none⟩ v) := by
  refine ⟨?_, h.2⟩
  rw [Below.heap_setCell _ _ _ _ (by exact fun e => hn e.symm)]
  exact h.1
theorem Tch.frozen {B : Nat} {w w' : World} (k : Tch B w w') {b o : Nat} (hb : b < w.heap.size) (hn : b ≠ B) : w'.frozen? ⟨b, o, none⟩ = w.frozen? ⟨b, o, none⟩ :=
  World.frozen?_of_block (w := w) (k.block b hb (by simpa using hn))
theorem zInt (r : Rs) (h : (rInt r).2.err ≠ 0) : (rInt r).1 = 0 := by
  revert h
  rw [rInt]
  split
  · intro _; rfl
  · split
    · intro _; rfl
    · intro h; exact absurd rfl h
theorem zCount (m : Int) (r : Rs) (h : (rCount m r).2.err ≠ 0) : (rCount m r).1 = 0 := by
  revert h
  rw [rCount]
  split
  · intro _; rfl
  · split
    · intro _; rfl
    · split
      · intro _; rfl
      · rename_i h1 _ _; intro h; exact absurd h h1
theorem zText (m : Int) (r : Rs) (h : (rText m r).2.err ≠ 0) : (rText m r).1 = [] := by
  revert h
  rw [rText]
  split
  · intro _; rfl
  · split
    · intro _; rfl
    · intro h; exact absurd rfl h
theorem zBool (r : Rs) (h : (rBool r).2.err ≠ 0) : (rBool r).1 = false := by
  revert h
  obtain ⟨rest, err⟩ := r
  unfold rBool
  split
  · intro _; rfl
  · cases rest with
    | nil => intro _; rfl
    | cons c l =>
      dsimp only
      split
      · intro _; rfl
      · intro h; exact absurd rfl h
theorem zInts (m : Int) (r : Rs) (h : (rInts m r).2.err ≠ 0) : (rInts m r).1 = [] := by
  revert h
  rw [rInts]
  split
  · intro _; rfl
  · rename_i h1; intro h; exact absurd h h1
theorem sCount (m : Int) (r : Rs) (h : r.err ≠ 0) : (rCount m r).2 = r := by rw [rCount, rInt_bad r h, if_pos h]
theorem sText (m : Int) (r : Rs) (h : r.err ≠ 0) : (rText m r).2 = r := by rw [rText, sCount m r h, if_pos h]
theorem sBool (r : Rs) (h : r.err ≠ 0) : (rBool r).2 = r := by rw [rBool, if_pos h]
theorem sInts (m : Int) (r : Rs) (h : r.err ≠ 0) : (rInts m r).2 = r := by
  have h1 : (rMany (rCount m r).1.toNat (rCount m r).2).2 = r := by rw [sCount m r h]; exact rMany_bad _ r h
  rw [rInts, h1, if_pos h]
theorem sInt (r : Rs) (h : r.err ≠ 0) : (rInt r).2 = r := by rw [rInt_bad r h]
theorem sFail (e : Int) (r : Rs) (h : r.err ≠ 0) : rFail e r = r := by rw [rFail, if_neg h]
end Hub
open Hub

set_option maxRecDepth 20000 in
set_option maxHeartbeats 16000000 in
theorem stays_any (s : ByteArray) (v : Value) (l : List (Int × Int × Int)) (w : World) (hs : s.size ≤ maxLen) (hv : OpsAt w.heap.size w v l) (hl : l.length ≤ maxLen) :
    Calls Try.prog 8 #[.string s, v] w fun e w' => e = .returned (.bool true) ∧ Below w.heap.size w w' := by
  have hs' : s.size ≤ 9223372036854775807 := hs
  have hl' : l.length ≤ 9223372036854775807 := hl
  clear hs hl
  obtain ⟨a, cap, rfl, hc⟩ := hv
  have HC := Lib.hid hc
  clear hc
  have HW := Lib.hid awake_any
  by_cases hz : s.size ≤ 500
  · by_cases hl : l.length ≤ 30
    · have HN := Lib.hid (fun w => wNew_any s w (by omega))
      go_enter Try.func8, Try.ntmps8
      go_wp2_with fail
      refine (HN.out _).mono ?_
      rintro e w1 ⟨rfl, hP1, hb1, hs1⟩
      clear hs1
      go_wp2_with fail
      go_loopw [6] (fun i wr => ∃ k : Nat, k ≤ l.length ∧ i = .int .i64 k ∧ RdP w.heap.size (rSteps (l.take k) ⟨bl s, 0⟩) wr ∧ Below w.heap.size w wr) (fun i _ => l.length - (intOf i).toNat)
      case atStart => exact ⟨0, Nat.zero_le _, rfl, hP1, hb1⟩
      case round =>
        obtain ⟨k, hk, rfl, hP, hbr⟩ := hrel
        by_cases hlt : k < l.length
        · obtain ⟨b, off, rfl, hbN, hcell⟩ := HC.out (by intro h; rw [h] at hlt; simp at hlt)
          obtain ⟨c0, c1, c2⟩ := hcell k hlt
          have HT := Lib.hid (rSteps_take l k hlt ⟨bl s, 0⟩)
          have d0 := (hbr.cell (p := ⟨b, off + k * 3, none⟩) hbN).trans c0
          have d1 := (hbr.cell (p := ⟨b, off + k * 3 + 1, none⟩) hbN).trans c1
          have d2 := (hbr.cell (p := ⟨b, off + k * 3 + 2, none⟩) hbN).trans c2
          clear hcell c0 c1 c2
          generalize rSteps (l.take k) ⟨bl s, 0⟩ = r at *
          generalize l[k] = q at *
          obtain ⟨k0, m, en⟩ := q
          simp only at d0 d1 d2
          have HZ := Lib.hid hbr.size
          clear hs' hl'
          have hbW : b < wr.heap.size := Nat.lt_of_lt_of_le hbN hbr.size
          have hBW : w.heap.size < wr.heap.size := hP.lt
          have HK := Lib.hid (show k ≤ l.length from hk)
          have hP0 := hP.below ((Below.refl wr.heap.size wr).alloc (Nat.le_refl _) (.cells #[.int .i64 0, .int .i64 0, .string { data := #[] }, .slice none 0 0] 37)) hP.lt
          have HA := Lib.hid (bt hbr ((Below.refl wr.heap.size wr).alloc (Nat.le_refl _) (.cells #[.int .i64 0, .int .i64 0, .string { data := #[] }, .slice none 0 0] 37)))
          by_cases g0 : k0 = 0
          · have hst : rStep k0 m en r = (rInt r).2 := by unfold rStep; rw [if_pos g0]
            have HSt := Lib.hid hst
            clear hst
            have hk0 : (k0 == 0) = true := by simpa using g0
            clear g0
            have HP := Lib.hid (fun w' h => wrInt_any w.heap.size r w' h)
            have HS1 := Lib.hid (fun h : r.err ≠ 0 => sInt r h)
            have HZ1 := Lib.hid (fun h : (rInt r).2.err ≠ 0 => zInt r h)
            generalize (rInt r).1 = o at *
            generalize (rInt r).2 = r1 at *
            by_cases he : r.err = 0
            · have heb : (r.err != 0) = false := by simpa using he
              clear he
              by_cases h1 : r1.err = 0
              · have h1b : (r1.err != 0) = false := by simpa using h1
                clear h1
                go_wp2_with (go_at_call 32; refine (wErr_any w.heap.size r _ hP).mono ?_; rintro e w7 ⟨rfl, rfl⟩)
                refine (HP.out _ hP0).mono ?_
                rintro e w3 ⟨rfl, hPz, t3⟩
                have hx0 : w3.cell? ⟨wr.heap.size, 0, none⟩ = some (.int .i64 0) := by rw [t3.cell (by simp) (by omega)]; simp
                have hx1 : w3.cell? ⟨wr.heap.size, 1, none⟩ = some (.int .i64 0) := by rw [t3.cell (by simp) (by omega)]; simp
                have hx2 : w3.cell? ⟨wr.heap.size, 2, none⟩ = some (.string { data := #[] }) := by rw [t3.cell (by simp) (by omega)]; simp
                have hx3 : w3.cell? ⟨wr.heap.size, 3, none⟩ = some (.slice none 0 0) := by rw [t3.cell (by simp) (by omega)]; simp
                have hfx : w3.frozen? ⟨wr.heap.size, 1, none⟩ = false := by rw [t3.frozen (by simp) (by omega)]; simp
                go_wp2_with (first | (go_at_call 32; refine (wErr_any w.heap.size r1 _ (by first | exact hPz | exact hPz.other (by omega))).mono ?_; rintro e w7 ⟨rfl, rfl⟩) | (go_at_call 28; refine (wEnd_any w.heap.size r1 _ (by first | exact hPz | exact hPz.other (by omega))).mono ?_; rintro e w7 ⟨rfl, rfl⟩) | (go_at_call 35; refine (wLeft_any w.heap.size r1 _ (by first | exact hPz | exact hPz.other (by omega))).mono ?_; rintro e w7 ⟨rfl, rfl⟩))
                all_goals (go_roundw; all_goals first | (case rel => exact ⟨k + 1, by omega, by go_num, by rw [HT.out, HSt.out]; first | exact hPz | exact hPz.other (by omega), by first | exact HA.out.trans (t3.below (Nat.le_refl _) HA.out.size) | exact (HA.out.trans (t3.below (Nat.le_refl _) HA.out.size)).setCell (by exact Nat.le_of_lt hBW) _⟩) | (case measure => simp [intOf]; omega))
              · have h1b : (r1.err != 0) = true := by simpa using h1
                have ho := HZ1.out h1
                subst ho
                clear HZ1
                clear h1
                go_wp2_with (go_at_call 32; refine (wErr_any w.heap.size r _ hP).mono ?_; rintro e w7 ⟨rfl, rfl⟩)
                refine (HP.out _ hP0).mono ?_
                rintro e w3 ⟨rfl, hPz, t3⟩
                have hx0 : w3.cell? ⟨wr.heap.size, 0, none⟩ = some (.int .i64 0) := by rw [t3.cell (by simp) (by omega)]; simp
                have hx1 : w3.cell? ⟨wr.heap.size, 1, none⟩ = some (.int .i64 0) := by rw [t3.cell (by simp) (by omega)]; simp
                have hx2 : w3.cell? ⟨wr.heap.size, 2, none⟩ = some (.string { data := #[] }) := by rw [t3.cell (by simp) (by omega)]; simp
                have hx3 : w3.cell? ⟨wr.heap.size, 3, none⟩ = some (.slice none 0 0) := by rw [t3.cell (by simp) (by omega)]; simp
                have hfx : w3.frozen? ⟨wr.heap.size, 1, none⟩ = false := by rw [t3.frozen (by simp) (by omega)]; simp
                go_wp2_with (first | (go_at_call 32; refine (wErr_any w.heap.size r1 _ (by first | exact hPz | exact hPz.other (by omega))).mono ?_; rintro e w7 ⟨rfl, rfl⟩) | (go_at_call 28; refine (wEnd_any w.heap.size r1 _ (by first | exact hPz | exact hPz.other (by omega))).mono ?_; rintro e w7 ⟨rfl, rfl⟩) | (go_at_call 35; refine (wLeft_any w.heap.size r1 _ (by first | exact hPz | exact hPz.other (by omega))).mono ?_; rintro e w7 ⟨rfl, rfl⟩))
                all_goals (go_roundw; all_goals first | (case rel => exact ⟨k + 1, by omega, by go_num, by rw [HT.out, HSt.out]; first | exact hPz | exact hPz.other (by omega), by first | exact HA.out.trans (t3.below (Nat.le_refl _) HA.out.size) | exact (HA.out.trans (t3.below (Nat.le_refl _) HA.out.size)).setCell (by exact Nat.le_of_lt hBW) _⟩) | (case measure => simp [intOf]; omega))
            · have heb : (r.err != 0) = true := by simpa using he
              have hr1 : r1 = r := HS1.out he
              subst hr1
              have ho := HZ1.out he
              subst ho
              clear HZ1
              have hE : rEnd r1 = r1.err := by rw [rEnd, if_pos he]
              have hLf : rLeft r1 = 0 := by rw [rLeft, if_pos he]
              clear he
              go_wp2_with (go_at_call 32; refine (wErr_any w.heap.size r1 _ hP).mono ?_; rintro e w7 ⟨rfl, rfl⟩)
              refine (HP.out _ hP0).mono ?_
              rintro e w3 ⟨rfl, hPz, t3⟩
              have hx0 : w3.cell? ⟨wr.heap.size, 0, none⟩ = some (.int .i64 0) := by rw [t3.cell (by simp) (by omega)]; simp
              have hx1 : w3.cell? ⟨wr.heap.size, 1, none⟩ = some (.int .i64 0) := by rw [t3.cell (by simp) (by omega)]; simp
              have hx2 : w3.cell? ⟨wr.heap.size, 2, none⟩ = some (.string { data := #[] }) := by rw [t3.cell (by simp) (by omega)]; simp
              have hx3 : w3.cell? ⟨wr.heap.size, 3, none⟩ = some (.slice none 0 0) := by rw [t3.cell (by simp) (by omega)]; simp
              have hfx : w3.frozen? ⟨wr.heap.size, 1, none⟩ = false := by rw [t3.frozen (by simp) (by omega)]; simp
              go_wp2_with (first | (go_at_call 32; refine (wErr_any w.heap.size r1 _ (by first | exact hPz | exact hPz.other (by omega))).mono ?_; rintro e w7 ⟨rfl, rfl⟩) | (go_at_call 28; refine (wEnd_any w.heap.size r1 _ (by first | exact hPz | exact hPz.other (by omega))).mono ?_; rintro e w7 ⟨rfl, rfl⟩) | (go_at_call 35; refine (wLeft_any w.heap.size r1 _ (by first | exact hPz | exact hPz.other (by omega))).mono ?_; rintro e w7 ⟨rfl, rfl⟩))
              all_goals (go_roundw; all_goals first | (case rel => exact ⟨k + 1, by omega, by go_num, by rw [HT.out, HSt.out]; first | exact hPz | exact hPz.other (by omega), by first | exact HA.out.trans (t3.below (Nat.le_refl _) HA.out.size) | exact (HA.out.trans (t3.below (Nat.le_refl _) HA.out.size)).setCell (by exact Nat.le_of_lt hBW) _⟩) | (case measure => simp [intOf]; omega))
          by_cases g1 : k0 = 1
          · have hst : rStep k0 m en r = (rText m r).2 := by unfold rStep; rw [if_neg g0, if_pos g1]
            have HSt := Lib.hid hst
            clear hst
            have hk0 : (k0 == 0) = false := by simpa using g0
            have hk1 : (k0 == 1) = true := by simpa using g1
            clear g0 g1
            have HP := Lib.hid (fun w' h => wrText_any w.heap.size r m w' h)
            have HS1 := Lib.hid (fun h : r.err ≠ 0 => sText m r h)
            have HZ1 := Lib.hid (fun h : (rText m r).2.err ≠ 0 => zText m r h)
            generalize (rText m r).1 = o at *
            generalize (rText m r).2 = r1 at *
            by_cases he : r.err = 0
            · have heb : (r.err != 0) = false := by simpa using he
              clear he
              by_cases h1 : r1.err = 0
              · have h1b : (r1.err != 0) = false := by simpa using h1
                clear h1
                generalize mk o = K at *
                go_wp2_with (go_at_call 32; refine (wErr_any w.heap.size r _ hP).mono ?_; rintro e w7 ⟨rfl, rfl⟩)
                refine (HP.out _ hP0).mono ?_
                rintro e w3 ⟨rfl, hPz, t3⟩
                have hx0 : w3.cell? ⟨wr.heap.size, 0, none⟩ = some (.int .i64 0) := by rw [t3.cell (by simp) (by omega)]; simp
                have hx1 : w3.cell? ⟨wr.heap.size, 1, none⟩ = some (.int .i64 0) := by rw [t3.cell (by simp) (by omega)]; simp
                have hx2 : w3.cell? ⟨wr.heap.size, 2, none⟩ = some (.string { data := #[] }) := by rw [t3.cell (by simp) (by omega)]; simp
                have hx3 : w3.cell? ⟨wr.heap.size, 3, none⟩ = some (.slice none 0 0) := by rw [t3.cell (by simp) (by omega)]; simp
                have hfx : w3.frozen? ⟨wr.heap.size, 2, none⟩ = false := by rw [t3.frozen (by simp) (by omega)]; simp
                go_wp2_with (first | (go_at_call 32; refine (wErr_any w.heap.size r1 _ (by first | exact hPz | exact hPz.other (by omega))).mono ?_; rintro e w7 ⟨rfl, rfl⟩) | (go_at_call 28; refine (wEnd_any w.heap.size r1 _ (by first | exact hPz | exact hPz.other (by omega))).mono ?_; rintro e w7 ⟨rfl, rfl⟩) | (go_at_call 35; refine (wLeft_any w.heap.size r1 _ (by first | exact hPz | exact hPz.other (by omega))).mono ?_; rintro e w7 ⟨rfl, rfl⟩))
                all_goals (go_roundw; all_goals first | (case rel => exact ⟨k + 1, by omega, by go_num, by rw [HT.out, HSt.out]; first | exact hPz | exact hPz.other (by omega), by first | exact HA.out.trans (t3.below (Nat.le_refl _) HA.out.size) | exact (HA.out.trans (t3.below (Nat.le_refl _) HA.out.size)).setCell (by exact Nat.le_of_lt hBW) _⟩) | (case measure => simp [intOf]; omega))
              · have h1b : (r1.err != 0) = true := by simpa using h1
                have ho := HZ1.out h1
                subst ho
                clear HZ1
                clear h1
                rw [show mk [] = ({ data := #[] } : ByteArray) from rfl] at HP
                go_wp2_with (go_at_call 32; refine (wErr_any w.heap.size r _ hP).mono ?_; rintro e w7 ⟨rfl, rfl⟩)
                refine (HP.out _ hP0).mono ?_
                rintro e w3 ⟨rfl, hPz, t3⟩
                have hx0 : w3.cell? ⟨wr.heap.size, 0, none⟩ = some (.int .i64 0) := by rw [t3.cell (by simp) (by omega)]; simp
                have hx1 : w3.cell? ⟨wr.heap.size, 1, none⟩ = some (.int .i64 0) := by rw [t3.cell (by simp) (by omega)]; simp
                have hx2 : w3.cell? ⟨wr.heap.size, 2, none⟩ = some (.string { data := #[] }) := by rw [t3.cell (by simp) (by omega)]; simp
                have hx3 : w3.cell? ⟨wr.heap.size, 3, none⟩ = some (.slice none 0 0) := by rw [t3.cell (by simp) (by omega)]; simp
                have hfx : w3.frozen? ⟨wr.heap.size, 2, none⟩ = false := by rw [t3.frozen (by simp) (by omega)]; simp
                go_wp2_with (first | (go_at_call 32; refine (wErr_any w.heap.size r1 _ (by first | exact hPz | exact hPz.other (by omega))).mono ?_; rintro e w7 ⟨rfl, rfl⟩) | (go_at_call 28; refine (wEnd_any w.heap.size r1 _ (by first | exact hPz | exact hPz.other (by omega))).mono ?_; rintro e w7 ⟨rfl, rfl⟩) | (go_at_call 35; refine (wLeft_any w.heap.size r1 _ (by first | exact hPz | exact hPz.other (by omega))).mono ?_; rintro e w7 ⟨rfl, rfl⟩))
                all_goals (go_roundw; all_goals first | (case rel => exact ⟨k + 1, by omega, by go_num, by rw [HT.out, HSt.out]; first | exact hPz | exact hPz.other (by omega), by first | exact HA.out.trans (t3.below (Nat.le_refl _) HA.out.size) | exact (HA.out.trans (t3.below (Nat.le_refl _) HA.out.size)).setCell (by exact Nat.le_of_lt hBW) _⟩) | (case measure => simp [intOf]; omega))
            · have heb : (r.err != 0) = true := by simpa using he
              have hr1 : r1 = r := HS1.out he
              subst hr1
              have ho := HZ1.out he
              subst ho
              clear HZ1
              have hE : rEnd r1 = r1.err := by rw [rEnd, if_pos he]
              have hLf : rLeft r1 = 0 := by rw [rLeft, if_pos he]
              clear he
              rw [show mk [] = ({ data := #[] } : ByteArray) from rfl] at HP
              go_wp2_with (go_at_call 32; refine (wErr_any w.heap.size r1 _ hP).mono ?_; rintro e w7 ⟨rfl, rfl⟩)
              refine (HP.out _ hP0).mono ?_
              rintro e w3 ⟨rfl, hPz, t3⟩
              have hx0 : w3.cell? ⟨wr.heap.size, 0, none⟩ = some (.int .i64 0) := by rw [t3.cell (by simp) (by omega)]; simp
              have hx1 : w3.cell? ⟨wr.heap.size, 1, none⟩ = some (.int .i64 0) := by rw [t3.cell (by simp) (by omega)]; simp
              have hx2 : w3.cell? ⟨wr.heap.size, 2, none⟩ = some (.string { data := #[] }) := by rw [t3.cell (by simp) (by omega)]; simp
              have hx3 : w3.cell? ⟨wr.heap.size, 3, none⟩ = some (.slice none 0 0) := by rw [t3.cell (by simp) (by omega)]; simp
              have hfx : w3.frozen? ⟨wr.heap.size, 2, none⟩ = false := by rw [t3.frozen (by simp) (by omega)]; simp
              go_wp2_with (first | (go_at_call 32; refine (wErr_any w.heap.size r1 _ (by first | exact hPz | exact hPz.other (by omega))).mono ?_; rintro e w7 ⟨rfl, rfl⟩) | (go_at_call 28; refine (wEnd_any w.heap.size r1 _ (by first | exact hPz | exact hPz.other (by omega))).mono ?_; rintro e w7 ⟨rfl, rfl⟩) | (go_at_call 35; refine (wLeft_any w.heap.size r1 _ (by first | exact hPz | exact hPz.other (by omega))).mono ?_; rintro e w7 ⟨rfl, rfl⟩))
              all_goals (go_roundw; all_goals first | (case rel => exact ⟨k + 1, by omega, by go_num, by rw [HT.out, HSt.out]; first | exact hPz | exact hPz.other (by omega), by first | exact HA.out.trans (t3.below (Nat.le_refl _) HA.out.size) | exact (HA.out.trans (t3.below (Nat.le_refl _) HA.out.size)).setCell (by exact Nat.le_of_lt hBW) _⟩) | (case measure => simp [intOf]; omega))
          by_cases g2 : k0 = 2
          · have hst : rStep k0 m en r = (rBool r).2 := by unfold rStep; rw [if_neg g0, if_neg g1, if_pos g2]
            have HSt := Lib.hid hst
            clear hst
            have hk0 : (k0 == 0) = false := by simpa using g0
            have hk1 : (k0 == 1) = false := by simpa using g1
            have hk2 : (k0 == 2) = true := by simpa using g2
            clear g0 g1 g2
            have HP := Lib.hid (fun w' h => wrBool_any w.heap.size r w' h)
            have HS1 := Lib.hid (fun h : r.err ≠ 0 => sBool r h)
            have HZ1 := Lib.hid (fun h : (rBool r).2.err ≠ 0 => zBool r h)
            generalize (rBool r).1 = o at *
            generalize (rBool r).2 = r1 at *
            by_cases he : r.err = 0
            · have heb : (r.err != 0) = false := by simpa using he
              clear he
              by_cases h1 : r1.err = 0
              · have h1b : (r1.err != 0) = false := by simpa using h1
                clear h1
                cases o
                all_goals
                  go_wp2_with (go_at_call 32; refine (wErr_any w.heap.size r _ hP).mono ?_; rintro e w7 ⟨rfl, rfl⟩)
                  refine (HP.out _ hP0).mono ?_
                  rintro e w3 ⟨rfl, hPz, t3⟩
                  have hx0 : w3.cell? ⟨wr.heap.size, 0, none⟩ = some (.int .i64 0) := by rw [t3.cell (by simp) (by omega)]; simp
                  have hx1 : w3.cell? ⟨wr.heap.size, 1, none⟩ = some (.int .i64 0) := by rw [t3.cell (by simp) (by omega)]; simp
                  have hx2 : w3.cell? ⟨wr.heap.size, 2, none⟩ = some (.string { data := #[] }) := by rw [t3.cell (by simp) (by omega)]; simp
                  have hx3 : w3.cell? ⟨wr.heap.size, 3, none⟩ = some (.slice none 0 0) := by rw [t3.cell (by simp) (by omega)]; simp
                  have hfx : w3.frozen? ⟨wr.heap.size, 1, none⟩ = false := by rw [t3.frozen (by simp) (by omega)]; simp
                  go_wp2_with (first | (go_at_call 32; refine (wErr_any w.heap.size r1 _ (by first | exact hPz | exact hPz.other (by omega))).mono ?_; rintro e w7 ⟨rfl, rfl⟩) | (go_at_call 28; refine (wEnd_any w.heap.size r1 _ (by first | exact hPz | exact hPz.other (by omega))).mono ?_; rintro e w7 ⟨rfl, rfl⟩) | (go_at_call 35; refine (wLeft_any w.heap.size r1 _ (by first | exact hPz | exact hPz.other (by omega))).mono ?_; rintro e w7 ⟨rfl, rfl⟩))
                  all_goals (go_roundw; all_goals first | (case rel => exact ⟨k + 1, by omega, by go_num, by rw [HT.out, HSt.out]; first | exact hPz | exact hPz.other (by omega), by first | exact HA.out.trans (t3.below (Nat.le_refl _) HA.out.size) | exact (HA.out.trans (t3.below (Nat.le_refl _) HA.out.size)).setCell (by exact Nat.le_of_lt hBW) _⟩) | (case measure => simp [intOf]; omega))
              · have h1b : (r1.err != 0) = true := by simpa using h1
                have ho := HZ1.out h1
                subst ho
                clear HZ1
                clear h1
                go_wp2_with (go_at_call 32; refine (wErr_any w.heap.size r _ hP).mono ?_; rintro e w7 ⟨rfl, rfl⟩)
                refine (HP.out _ hP0).mono ?_
                rintro e w3 ⟨rfl, hPz, t3⟩
                have hx0 : w3.cell? ⟨wr.heap.size, 0, none⟩ = some (.int .i64 0) := by rw [t3.cell (by simp) (by omega)]; simp
                have hx1 : w3.cell? ⟨wr.heap.size, 1, none⟩ = some (.int .i64 0) := by rw [t3.cell (by simp) (by omega)]; simp
                have hx2 : w3.cell? ⟨wr.heap.size, 2, none⟩ = some (.string { data := #[] }) := by rw [t3.cell (by simp) (by omega)]; simp
                have hx3 : w3.cell? ⟨wr.heap.size, 3, none⟩ = some (.slice none 0 0) := by rw [t3.cell (by simp) (by omega)]; simp
                have hfx : w3.frozen? ⟨wr.heap.size, 1, none⟩ = false := by rw [t3.frozen (by simp) (by omega)]; simp
                go_wp2_with (first | (go_at_call 32; refine (wErr_any w.heap.size r1 _ (by first | exact hPz | exact hPz.other (by omega))).mono ?_; rintro e w7 ⟨rfl, rfl⟩) | (go_at_call 28; refine (wEnd_any w.heap.size r1 _ (by first | exact hPz | exact hPz.other (by omega))).mono ?_; rintro e w7 ⟨rfl, rfl⟩) | (go_at_call 35; refine (wLeft_any w.heap.size r1 _ (by first | exact hPz | exact hPz.other (by omega))).mono ?_; rintro e w7 ⟨rfl, rfl⟩))
                all_goals (go_roundw; all_goals first | (case rel => exact ⟨k + 1, by omega, by go_num, by rw [HT.out, HSt.out]; first | exact hPz | exact hPz.other (by omega), by first | exact HA.out.trans (t3.below (Nat.le_refl _) HA.out.size) | exact (HA.out.trans (t3.below (Nat.le_refl _) HA.out.size)).setCell (by exact Nat.le_of_lt hBW) _⟩) | (case measure => simp [intOf]; omega))
            · have heb : (r.err != 0) = true := by simpa using he
              have hr1 : r1 = r := HS1.out he
              subst hr1
              have ho := HZ1.out he
              subst ho
              clear HZ1
              have hE : rEnd r1 = r1.err := by rw [rEnd, if_pos he]
              have hLf : rLeft r1 = 0 := by rw [rLeft, if_pos he]
              clear he
              go_wp2_with (go_at_call 32; refine (wErr_any w.heap.size r1 _ hP).mono ?_; rintro e w7 ⟨rfl, rfl⟩)
              refine (HP.out _ hP0).mono ?_
              rintro e w3 ⟨rfl, hPz, t3⟩
              have hx0 : w3.cell? ⟨wr.heap.size, 0, none⟩ = some (.int .i64 0) := by rw [t3.cell (by simp) (by omega)]; simp
              have hx1 : w3.cell? ⟨wr.heap.size, 1, none⟩ = some (.int .i64 0) := by rw [t3.cell (by simp) (by omega)]; simp
              have hx2 : w3.cell? ⟨wr.heap.size, 2, none⟩ = some (.string { data := #[] }) := by rw [t3.cell (by simp) (by omega)]; simp
              have hx3 : w3.cell? ⟨wr.heap.size, 3, none⟩ = some (.slice none 0 0) := by rw [t3.cell (by simp) (by omega)]; simp
              have hfx : w3.frozen? ⟨wr.heap.size, 1, none⟩ = false := by rw [t3.frozen (by simp) (by omega)]; simp
              go_wp2_with (first | (go_at_call 32; refine (wErr_any w.heap.size r1 _ (by first | exact hPz | exact hPz.other (by omega))).mono ?_; rintro e w7 ⟨rfl, rfl⟩) | (go_at_call 28; refine (wEnd_any w.heap.size r1 _ (by first | exact hPz | exact hPz.other (by omega))).mono ?_; rintro e w7 ⟨rfl, rfl⟩) | (go_at_call 35; refine (wLeft_any w.heap.size r1 _ (by first | exact hPz | exact hPz.other (by omega))).mono ?_; rintro e w7 ⟨rfl, rfl⟩))
              all_goals (go_roundw; all_goals first | (case rel => exact ⟨k + 1, by omega, by go_num, by rw [HT.out, HSt.out]; first | exact hPz | exact hPz.other (by omega), by first | exact HA.out.trans (t3.below (Nat.le_refl _) HA.out.size) | exact (HA.out.trans (t3.below (Nat.le_refl _) HA.out.size)).setCell (by exact Nat.le_of_lt hBW) _⟩) | (case measure => simp [intOf]; omega))
          by_cases g3 : k0 = 3
          · have hst : rStep k0 m en r = (rCount m r).2 := by unfold rStep; rw [if_neg g0, if_neg g1, if_neg g2, if_pos g3]
            have HSt := Lib.hid hst
            clear hst
            have hk0 : (k0 == 0) = false := by simpa using g0
            have hk1 : (k0 == 1) = false := by simpa using g1
            have hk2 : (k0 == 2) = false := by simpa using g2
            have hk3 : (k0 == 3) = true := by simpa using g3
            clear g0 g1 g2 g3
            have HP := Lib.hid (fun w' h => wrCount_any w.heap.size r m w' h)
            have HS1 := Lib.hid (fun h : r.err ≠ 0 => sCount m r h)
            have HZ1 := Lib.hid (fun h : (rCount m r).2.err ≠ 0 => zCount m r h)
            generalize (rCount m r).1 = o at *
            generalize (rCount m r).2 = r1 at *
            by_cases he : r.err = 0
            · have heb : (r.err != 0) = false := by simpa using he
              clear he
              by_cases h1 : r1.err = 0
              · have h1b : (r1.err != 0) = false := by simpa using h1
                clear h1
                go_wp2_with (go_at_call 32; refine (wErr_any w.heap.size r _ hP).mono ?_; rintro e w7 ⟨rfl, rfl⟩)
                refine (HP.out _ hP0).mono ?_
                rintro e w3 ⟨rfl, hPz, t3⟩
                have hx0 : w3.cell? ⟨wr.heap.size, 0, none⟩ = some (.int .i64 0) := by rw [t3.cell (by simp) (by omega)]; simp
                have hx1 : w3.cell? ⟨wr.heap.size, 1, none⟩ = some (.int .i64 0) := by rw [t3.cell (by simp) (by omega)]; simp
                have hx2 : w3.cell? ⟨wr.heap.size, 2, none⟩ = some (.string { data := #[] }) := by rw [t3.cell (by simp) (by omega)]; simp
                have hx3 : w3.cell? ⟨wr.heap.size, 3, none⟩ = some (.slice none 0 0) := by rw [t3.cell (by simp) (by omega)]; simp
                go_wp2_with (first | (go_at_call 32; refine (wErr_any w.heap.size r1 _ (by first | exact hPz | exact hPz.other (by omega))).mono ?_; rintro e w7 ⟨rfl, rfl⟩) | (go_at_call 28; refine (wEnd_any w.heap.size r1 _ (by first | exact hPz | exact hPz.other (by omega))).mono ?_; rintro e w7 ⟨rfl, rfl⟩) | (go_at_call 35; refine (wLeft_any w.heap.size r1 _ (by first | exact hPz | exact hPz.other (by omega))).mono ?_; rintro e w7 ⟨rfl, rfl⟩))
                all_goals (go_roundw; all_goals first | (case rel => exact ⟨k + 1, by omega, by go_num, by rw [HT.out, HSt.out]; first | exact hPz | exact hPz.other (by omega), by first | exact HA.out.trans (t3.below (Nat.le_refl _) HA.out.size) | exact (HA.out.trans (t3.below (Nat.le_refl _) HA.out.size)).setCell (by exact Nat.le_of_lt hBW) _⟩) | (case measure => simp [intOf]; omega))
              · have h1b : (r1.err != 0) = true := by simpa using h1
                have ho := HZ1.out h1
                subst ho
                clear HZ1
                clear h1
                go_wp2_with (go_at_call 32; refine (wErr_any w.heap.size r _ hP).mono ?_; rintro e w7 ⟨rfl, rfl⟩)
                refine (HP.out _ hP0).mono ?_
                rintro e w3 ⟨rfl, hPz, t3⟩
                have hx0 : w3.cell? ⟨wr.heap.size, 0, none⟩ = some (.int .i64 0) := by rw [t3.cell (by simp) (by omega)]; simp
                have hx1 : w3.cell? ⟨wr.heap.size, 1, none⟩ = some (.int .i64 0) := by rw [t3.cell (by simp) (by omega)]; simp
                have hx2 : w3.cell? ⟨wr.heap.size, 2, none⟩ = some (.string { data := #[] }) := by rw [t3.cell (by simp) (by omega)]; simp
                have hx3 : w3.cell? ⟨wr.heap.size, 3, none⟩ = some (.slice none 0 0) := by rw [t3.cell (by simp) (by omega)]; simp
                go_wp2_with (first | (go_at_call 32; refine (wErr_any w.heap.size r1 _ (by first | exact hPz | exact hPz.other (by omega))).mono ?_; rintro e w7 ⟨rfl, rfl⟩) | (go_at_call 28; refine (wEnd_any w.heap.size r1 _ (by first | exact hPz | exact hPz.other (by omega))).mono ?_; rintro e w7 ⟨rfl, rfl⟩) | (go_at_call 35; refine (wLeft_any w.heap.size r1 _ (by first | exact hPz | exact hPz.other (by omega))).mono ?_; rintro e w7 ⟨rfl, rfl⟩))
                all_goals (go_roundw; all_goals first | (case rel => exact ⟨k + 1, by omega, by go_num, by rw [HT.out, HSt.out]; first | exact hPz | exact hPz.other (by omega), by first | exact HA.out.trans (t3.below (Nat.le_refl _) HA.out.size) | exact (HA.out.trans (t3.below (Nat.le_refl _) HA.out.size)).setCell (by exact Nat.le_of_lt hBW) _⟩) | (case measure => simp [intOf]; omega))
            · have heb : (r.err != 0) = true := by simpa using he
              have hr1 : r1 = r := HS1.out he
              subst hr1
              have ho := HZ1.out he
              subst ho
              clear HZ1
              have hE : rEnd r1 = r1.err := by rw [rEnd, if_pos he]
              have hLf : rLeft r1 = 0 := by rw [rLeft, if_pos he]
              clear he
              go_wp2_with (go_at_call 32; refine (wErr_any w.heap.size r1 _ hP).mono ?_; rintro e w7 ⟨rfl, rfl⟩)
              refine (HP.out _ hP0).mono ?_
              rintro e w3 ⟨rfl, hPz, t3⟩
              have hx0 : w3.cell? ⟨wr.heap.size, 0, none⟩ = some (.int .i64 0) := by rw [t3.cell (by simp) (by omega)]; simp
              have hx1 : w3.cell? ⟨wr.heap.size, 1, none⟩ = some (.int .i64 0) := by rw [t3.cell (by simp) (by omega)]; simp
              have hx2 : w3.cell? ⟨wr.heap.size, 2, none⟩ = some (.string { data := #[] }) := by rw [t3.cell (by simp) (by omega)]; simp
              have hx3 : w3.cell? ⟨wr.heap.size, 3, none⟩ = some (.slice none 0 0) := by rw [t3.cell (by simp) (by omega)]; simp
              go_wp2_with (first | (go_at_call 32; refine (wErr_any w.heap.size r1 _ (by first | exact hPz | exact hPz.other (by omega))).mono ?_; rintro e w7 ⟨rfl, rfl⟩) | (go_at_call 28; refine (wEnd_any w.heap.size r1 _ (by first | exact hPz | exact hPz.other (by omega))).mono ?_; rintro e w7 ⟨rfl, rfl⟩) | (go_at_call 35; refine (wLeft_any w.heap.size r1 _ (by first | exact hPz | exact hPz.other (by omega))).mono ?_; rintro e w7 ⟨rfl, rfl⟩))
              all_goals (go_roundw; all_goals first | (case rel => exact ⟨k + 1, by omega, by go_num, by rw [HT.out, HSt.out]; first | exact hPz | exact hPz.other (by omega), by first | exact HA.out.trans (t3.below (Nat.le_refl _) HA.out.size) | exact (HA.out.trans (t3.below (Nat.le_refl _) HA.out.size)).setCell (by exact Nat.le_of_lt hBW) _⟩) | (case measure => simp [intOf]; omega))
          by_cases g4 : k0 = 4
          · have hst : rStep k0 m en r = (rInts m r).2 := by unfold rStep; rw [if_neg g0, if_neg g1, if_neg g2, if_neg g3, if_pos g4]
            have HSt := Lib.hid hst
            clear hst
            have hk0 : (k0 == 0) = false := by simpa using g0
            have hk1 : (k0 == 1) = false := by simpa using g1
            have hk2 : (k0 == 2) = false := by simpa using g2
            have hk3 : (k0 == 3) = false := by simpa using g3
            have hk4 : (k0 == 4) = true := by simpa using g4
            clear g0 g1 g2 g3 g4
            have HP := Lib.hid (fun w' h => wrInts_any w.heap.size r m w' h)
            have HS1 := Lib.hid (fun h : r.err ≠ 0 => sInts m r h)
            have HZ1 := Lib.hid (fun h : (rInts m r).2.err ≠ 0 => zInts m r h)
            generalize (rInts m r).1 = o at *
            generalize (rInts m r).2 = r1 at *
            by_cases he : r.err = 0
            · have heb : (r.err != 0) = false := by simpa using he
              clear he
              by_cases h1 : r1.err = 0
              · have h1b : (r1.err != 0) = false := by simpa using h1
                clear h1
                go_wp2_with (go_at_call 32; refine (wErr_any w.heap.size r _ hP).mono ?_; rintro e w7 ⟨rfl, rfl⟩)
                refine (HP.out _ hP0).mono ?_
                rintro e w3 ⟨v3, rfl, hO3, hPz, t3⟩
                have hx0 : w3.cell? ⟨wr.heap.size, 0, none⟩ = some (.int .i64 0) := by rw [t3.cell (by simp) (by omega)]; simp
                have hx1 : w3.cell? ⟨wr.heap.size, 1, none⟩ = some (.int .i64 0) := by rw [t3.cell (by simp) (by omega)]; simp
                have hx2 : w3.cell? ⟨wr.heap.size, 2, none⟩ = some (.string { data := #[] }) := by rw [t3.cell (by simp) (by omega)]; simp
                have hx3 : w3.cell? ⟨wr.heap.size, 3, none⟩ = some (.slice none 0 0) := by rw [t3.cell (by simp) (by omega)]; simp
                have hfx : w3.frozen? ⟨wr.heap.size, 3, none⟩ = false := by rw [t3.frozen (by simp) (by omega)]; simp
                obtain ⟨a3, c3, hv3, _⟩ := hO3.ints
                rw [hv3]
                go_wp2_with (first | (go_at_call 32; refine (wErr_any w.heap.size r1 _ (by first | exact hPz | exact hPz.other (by omega))).mono ?_; rintro e w7 ⟨rfl, rfl⟩) | (go_at_call 28; refine (wEnd_any w.heap.size r1 _ (by first | exact hPz | exact hPz.other (by omega))).mono ?_; rintro e w7 ⟨rfl, rfl⟩) | (go_at_call 35; refine (wLeft_any w.heap.size r1 _ (by first | exact hPz | exact hPz.other (by omega))).mono ?_; rintro e w7 ⟨rfl, rfl⟩))
                all_goals (go_roundw; all_goals first | (case rel => exact ⟨k + 1, by omega, by go_num, by rw [HT.out, HSt.out]; first | exact hPz | exact hPz.other (by omega), by first | exact HA.out.trans (t3.below (Nat.le_refl _) HA.out.size) | exact (HA.out.trans (t3.below (Nat.le_refl _) HA.out.size)).setCell (by exact Nat.le_of_lt hBW) _⟩) | (case measure => simp [intOf]; omega))
              · have h1b : (r1.err != 0) = true := by simpa using h1
                have ho := HZ1.out h1
                subst ho
                clear HZ1
                clear h1
                go_wp2_with (go_at_call 32; refine (wErr_any w.heap.size r _ hP).mono ?_; rintro e w7 ⟨rfl, rfl⟩)
                refine (HP.out _ hP0).mono ?_
                rintro e w3 ⟨v3, rfl, hO3, hPz, t3⟩
                have hx0 : w3.cell? ⟨wr.heap.size, 0, none⟩ = some (.int .i64 0) := by rw [t3.cell (by simp) (by omega)]; simp
                have hx1 : w3.cell? ⟨wr.heap.size, 1, none⟩ = some (.int .i64 0) := by rw [t3.cell (by simp) (by omega)]; simp
                have hx2 : w3.cell? ⟨wr.heap.size, 2, none⟩ = some (.string { data := #[] }) := by rw [t3.cell (by simp) (by omega)]; simp
                have hx3 : w3.cell? ⟨wr.heap.size, 3, none⟩ = some (.slice none 0 0) := by rw [t3.cell (by simp) (by omega)]; simp
                have hfx : w3.frozen? ⟨wr.heap.size, 3, none⟩ = false := by rw [t3.frozen (by simp) (by omega)]; simp
                obtain ⟨a3, c3, hv3, _⟩ := hO3.ints
                rw [hv3]
                go_wp2_with (first | (go_at_call 32; refine (wErr_any w.heap.size r1 _ (by first | exact hPz | exact hPz.other (by omega))).mono ?_; rintro e w7 ⟨rfl, rfl⟩) | (go_at_call 28; refine (wEnd_any w.heap.size r1 _ (by first | exact hPz | exact hPz.other (by omega))).mono ?_; rintro e w7 ⟨rfl, rfl⟩) | (go_at_call 35; refine (wLeft_any w.heap.size r1 _ (by first | exact hPz | exact hPz.other (by omega))).mono ?_; rintro e w7 ⟨rfl, rfl⟩))
                all_goals (go_roundw; all_goals first | (case rel => exact ⟨k + 1, by omega, by go_num, by rw [HT.out, HSt.out]; first | exact hPz | exact hPz.other (by omega), by first | exact HA.out.trans (t3.below (Nat.le_refl _) HA.out.size) | exact (HA.out.trans (t3.below (Nat.le_refl _) HA.out.size)).setCell (by exact Nat.le_of_lt hBW) _⟩) | (case measure => simp [intOf]; omega))
            · have heb : (r.err != 0) = true := by simpa using he
              have hr1 : r1 = r := HS1.out he
              subst hr1
              have ho := HZ1.out he
              subst ho
              clear HZ1
              have hE : rEnd r1 = r1.err := by rw [rEnd, if_pos he]
              have hLf : rLeft r1 = 0 := by rw [rLeft, if_pos he]
              clear he
              go_wp2_with (go_at_call 32; refine (wErr_any w.heap.size r1 _ hP).mono ?_; rintro e w7 ⟨rfl, rfl⟩)
              refine (HP.out _ hP0).mono ?_
              rintro e w3 ⟨v3, rfl, hO3, hPz, t3⟩
              have hx0 : w3.cell? ⟨wr.heap.size, 0, none⟩ = some (.int .i64 0) := by rw [t3.cell (by simp) (by omega)]; simp
              have hx1 : w3.cell? ⟨wr.heap.size, 1, none⟩ = some (.int .i64 0) := by rw [t3.cell (by simp) (by omega)]; simp
              have hx2 : w3.cell? ⟨wr.heap.size, 2, none⟩ = some (.string { data := #[] }) := by rw [t3.cell (by simp) (by omega)]; simp
              have hx3 : w3.cell? ⟨wr.heap.size, 3, none⟩ = some (.slice none 0 0) := by rw [t3.cell (by simp) (by omega)]; simp
              have hfx : w3.frozen? ⟨wr.heap.size, 3, none⟩ = false := by rw [t3.frozen (by simp) (by omega)]; simp
              obtain ⟨a3, c3, hv3, _⟩ := hO3.ints
              rw [hv3]
              go_wp2_with (first | (go_at_call 32; refine (wErr_any w.heap.size r1 _ (by first | exact hPz | exact hPz.other (by omega))).mono ?_; rintro e w7 ⟨rfl, rfl⟩) | (go_at_call 28; refine (wEnd_any w.heap.size r1 _ (by first | exact hPz | exact hPz.other (by omega))).mono ?_; rintro e w7 ⟨rfl, rfl⟩) | (go_at_call 35; refine (wLeft_any w.heap.size r1 _ (by first | exact hPz | exact hPz.other (by omega))).mono ?_; rintro e w7 ⟨rfl, rfl⟩))
              all_goals (go_roundw; all_goals first | (case rel => exact ⟨k + 1, by omega, by go_num, by rw [HT.out, HSt.out]; first | exact hPz | exact hPz.other (by omega), by first | exact HA.out.trans (t3.below (Nat.le_refl _) HA.out.size) | exact (HA.out.trans (t3.below (Nat.le_refl _) HA.out.size)).setCell (by exact Nat.le_of_lt hBW) _⟩) | (case measure => simp [intOf]; omega))
          by_cases g5 : k0 = 5
          · have hst : rStep k0 m en r = rFail en r := by unfold rStep; rw [if_neg g0, if_neg g1, if_neg g2, if_neg g3, if_neg g4, if_pos g5]
            have HSt := Lib.hid hst
            clear hst
            have hk0 : (k0 == 0) = false := by simpa using g0
            have hk1 : (k0 == 1) = false := by simpa using g1
            have hk2 : (k0 == 2) = false := by simpa using g2
            have hk3 : (k0 == 3) = false := by simpa using g3
            have hk4 : (k0 == 4) = false := by simpa using g4
            have hk5 : (k0 == 5) = true := by simpa using g5
            clear g0 g1 g2 g3 g4 g5
            have HP := Lib.hid (fun w' h => wFail_any w.heap.size r en w' h)
            have HS1 := Lib.hid (fun h : r.err ≠ 0 => sFail en r h)
            generalize rFail en r = r1 at *
            by_cases he : r.err = 0
            · have heb : (r.err != 0) = false := by simpa using he
              clear he
              by_cases h1 : r1.err = 0
              · have h1b : (r1.err != 0) = false := by simpa using h1
                clear h1
                go_wp2_with (go_at_call 32; refine (wErr_any w.heap.size r _ hP).mono ?_; rintro e w7 ⟨rfl, rfl⟩)
                refine (HP.out _ hP0).mono ?_
                rintro e w3 ⟨rfl, hPz, t3⟩
                have hx0 : w3.cell? ⟨wr.heap.size, 0, none⟩ = some (.int .i64 0) := by rw [t3.cell (by simp) (by omega)]; simp
                have hx1 : w3.cell? ⟨wr.heap.size, 1, none⟩ = some (.int .i64 0) := by rw [t3.cell (by simp) (by omega)]; simp
                have hx2 : w3.cell? ⟨wr.heap.size, 2, none⟩ = some (.string { data := #[] }) := by rw [t3.cell (by simp) (by omega)]; simp
                have hx3 : w3.cell? ⟨wr.heap.size, 3, none⟩ = some (.slice none 0 0) := by rw [t3.cell (by simp) (by omega)]; simp
                go_wp2_with (first | (go_at_call 32; refine (wErr_any w.heap.size r1 _ (by first | exact hPz | exact hPz.other (by omega))).mono ?_; rintro e w7 ⟨rfl, rfl⟩) | (go_at_call 28; refine (wEnd_any w.heap.size r1 _ (by first | exact hPz | exact hPz.other (by omega))).mono ?_; rintro e w7 ⟨rfl, rfl⟩) | (go_at_call 35; refine (wLeft_any w.heap.size r1 _ (by first | exact hPz | exact hPz.other (by omega))).mono ?_; rintro e w7 ⟨rfl, rfl⟩))
                all_goals (go_roundw; all_goals first | (case rel => exact ⟨k + 1, by omega, by go_num, by rw [HT.out, HSt.out]; first | exact hPz | exact hPz.other (by omega), by first | exact HA.out.trans (t3.below (Nat.le_refl _) HA.out.size) | exact (HA.out.trans (t3.below (Nat.le_refl _) HA.out.size)).setCell (by exact Nat.le_of_lt hBW) _⟩) | (case measure => simp [intOf]; omega))
              · have h1b : (r1.err != 0) = true := by simpa using h1
                clear h1
                go_wp2_with (go_at_call 32; refine (wErr_any w.heap.size r _ hP).mono ?_; rintro e w7 ⟨rfl, rfl⟩)
                refine (HP.out _ hP0).mono ?_
                rintro e w3 ⟨rfl, hPz, t3⟩
                have hx0 : w3.cell? ⟨wr.heap.size, 0, none⟩ = some (.int .i64 0) := by rw [t3.cell (by simp) (by omega)]; simp
                have hx1 : w3.cell? ⟨wr.heap.size, 1, none⟩ = some (.int .i64 0) := by rw [t3.cell (by simp) (by omega)]; simp
                have hx2 : w3.cell? ⟨wr.heap.size, 2, none⟩ = some (.string { data := #[] }) := by rw [t3.cell (by simp) (by omega)]; simp
                have hx3 : w3.cell? ⟨wr.heap.size, 3, none⟩ = some (.slice none 0 0) := by rw [t3.cell (by simp) (by omega)]; simp
                go_wp2_with (first | (go_at_call 32; refine (wErr_any w.heap.size r1 _ (by first | exact hPz | exact hPz.other (by omega))).mono ?_; rintro e w7 ⟨rfl, rfl⟩) | (go_at_call 28; refine (wEnd_any w.heap.size r1 _ (by first | exact hPz | exact hPz.other (by omega))).mono ?_; rintro e w7 ⟨rfl, rfl⟩) | (go_at_call 35; refine (wLeft_any w.heap.size r1 _ (by first | exact hPz | exact hPz.other (by omega))).mono ?_; rintro e w7 ⟨rfl, rfl⟩))
                all_goals (go_roundw; all_goals first | (case rel => exact ⟨k + 1, by omega, by go_num, by rw [HT.out, HSt.out]; first | exact hPz | exact hPz.other (by omega), by first | exact HA.out.trans (t3.below (Nat.le_refl _) HA.out.size) | exact (HA.out.trans (t3.below (Nat.le_refl _) HA.out.size)).setCell (by exact Nat.le_of_lt hBW) _⟩) | (case measure => simp [intOf]; omega))
            · have heb : (r.err != 0) = true := by simpa using he
              have hr1 : r1 = r := HS1.out he
              subst hr1
              have hE : rEnd r1 = r1.err := by rw [rEnd, if_pos he]
              have hLf : rLeft r1 = 0 := by rw [rLeft, if_pos he]
              clear he
              go_wp2_with (go_at_call 32; refine (wErr_any w.heap.size r1 _ hP).mono ?_; rintro e w7 ⟨rfl, rfl⟩)
              refine (HP.out _ hP0).mono ?_
              rintro e w3 ⟨rfl, hPz, t3⟩
              have hx0 : w3.cell? ⟨wr.heap.size, 0, none⟩ = some (.int .i64 0) := by rw [t3.cell (by simp) (by omega)]; simp
              have hx1 : w3.cell? ⟨wr.heap.size, 1, none⟩ = some (.int .i64 0) := by rw [t3.cell (by simp) (by omega)]; simp
              have hx2 : w3.cell? ⟨wr.heap.size, 2, none⟩ = some (.string { data := #[] }) := by rw [t3.cell (by simp) (by omega)]; simp
              have hx3 : w3.cell? ⟨wr.heap.size, 3, none⟩ = some (.slice none 0 0) := by rw [t3.cell (by simp) (by omega)]; simp
              go_wp2_with (first | (go_at_call 32; refine (wErr_any w.heap.size r1 _ (by first | exact hPz | exact hPz.other (by omega))).mono ?_; rintro e w7 ⟨rfl, rfl⟩) | (go_at_call 28; refine (wEnd_any w.heap.size r1 _ (by first | exact hPz | exact hPz.other (by omega))).mono ?_; rintro e w7 ⟨rfl, rfl⟩) | (go_at_call 35; refine (wLeft_any w.heap.size r1 _ (by first | exact hPz | exact hPz.other (by omega))).mono ?_; rintro e w7 ⟨rfl, rfl⟩))
              all_goals (go_roundw; all_goals first | (case rel => exact ⟨k + 1, by omega, by go_num, by rw [HT.out, HSt.out]; first | exact hPz | exact hPz.other (by omega), by first | exact HA.out.trans (t3.below (Nat.le_refl _) HA.out.size) | exact (HA.out.trans (t3.below (Nat.le_refl _) HA.out.size)).setCell (by exact Nat.le_of_lt hBW) _⟩) | (case measure => simp [intOf]; omega))
          · have hst : rStep k0 m en r = r := by unfold rStep; rw [if_neg g0, if_neg g1, if_neg g2, if_neg g3, if_neg g4, if_neg g5]
            have HSt := Lib.hid hst
            clear hst
            have hk0 : (k0 == 0) = false := by simpa using g0
            have hk1 : (k0 == 1) = false := by simpa using g1
            have hk2 : (k0 == 2) = false := by simpa using g2
            have hk3 : (k0 == 3) = false := by simpa using g3
            have hk4 : (k0 == 4) = false := by simpa using g4
            have hk5 : (k0 == 5) = false := by simpa using g5
            clear g0 g1 g2 g3 g4 g5
            have hPz := hP0
            by_cases he : r.err = 0
            · have heb : (r.err != 0) = false := by simpa using he
              clear he
              go_wp2_with (first | (go_at_call 32; refine (wErr_any w.heap.size r _ (by first | exact hP | exact hPz)).mono ?_; rintro e w7 ⟨rfl, rfl⟩) | (go_at_call 28; refine (wEnd_any w.heap.size r _ hPz).mono ?_; rintro e w7 ⟨rfl, rfl⟩) | (go_at_call 35; refine (wLeft_any w.heap.size r _ hPz).mono ?_; rintro e w7 ⟨rfl, rfl⟩))
              all_goals (go_roundw; all_goals first | (case rel => exact ⟨k + 1, by omega, by go_num, by rw [HT.out, HSt.out]; exact hPz, HA.out⟩) | (case measure => simp [intOf]; omega))
            · have heb : (r.err != 0) = true := by simpa using he
              have hE : rEnd r = r.err := by rw [rEnd, if_pos he]
              have hLf : rLeft r = 0 := by rw [rLeft, if_pos he]
              clear he
              go_wp2_with (first | (go_at_call 32; refine (wErr_any w.heap.size r _ (by first | exact hP | exact hPz)).mono ?_; rintro e w7 ⟨rfl, rfl⟩) | (go_at_call 28; refine (wEnd_any w.heap.size r _ hPz).mono ?_; rintro e w7 ⟨rfl, rfl⟩) | (go_at_call 35; refine (wLeft_any w.heap.size r _ hPz).mono ?_; rintro e w7 ⟨rfl, rfl⟩))
              all_goals (go_roundw; all_goals first | (case rel => exact ⟨k + 1, by omega, by go_num, by rw [HT.out, HSt.out]; exact hPz, HA.out⟩) | (case measure => simp [intOf]; omega))
        · obtain rfl : k = l.length := by omega
          clear hP
          go_wp2_with fail
          refine (HW.out _).mono ?_
          rintro e w8 ⟨rfl, hb8⟩
          go_wp2_with fail
          go_ret
          exact ⟨rfl, bt hbr hb8⟩
    · have hli : (30 : Int) < (l.length : Int) := by omega
      go_enter Try.func8, Try.ntmps8
      go_wp2_with fail
      refine (HW.out _).mono ?_
      rintro e w8 ⟨rfl, hb8⟩
      go_wp2_with fail
      go_ret
      exact ⟨rfl, hb8⟩
  · have hzi : (500 : Int) < (s.size : Int) := by omega
    go_enter Try.func8, Try.ntmps8
    go_wp2_with fail
    refine (HW.out _).mono ?_
    rintro e w8 ⟨rfl, hb8⟩
    go_wp2_with fail
    go_ret
    exact ⟨rfl, hb8⟩
end Go.Proofs.Ytapbmbbghbgkfaa
