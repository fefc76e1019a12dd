/-
  The walk of accepting a number, the reference's.
-/
import Derived.Test.YtegngjdeifbdiaaRepB
import Derived.RegionTactic
open Go Go.RowKit Go.Proofs
namespace Go.Proofs.Ytegngjdeifbdiaa
namespace Hub
theorem afroz {wr : World} (o : Obj) {b c : Nat} (h : wr.frozen? ⟨b, c, none⟩ = false) (hlt : b < wr.heap.size) : (wr.alloc o).frozen? ⟨b, c, none⟩ = false :=
  (((Below.refl wr.heap.size wr).alloc (Nat.le_refl _) o).frozen (p := ⟨b, c, none⟩) hlt).trans h
theorem two_cells {w1 : World} {B : Nat} {x0 x1 : Value} (d0 : w1.cell? ⟨B, 0, none⟩ = some x0) (d1 : w1.cell? ⟨B, 1, none⟩ = some x1) (hB : B < w1.heap.size) (u v : Value) (o : Obj) :
    (((w1.setCell ⟨B, 0, none⟩ u).setCell ⟨B, 1, none⟩ v).alloc o).cell? ⟨B, 0, none⟩ = some u ∧ (((w1.setCell ⟨B, 0, none⟩ u).setCell ⟨B, 1, none⟩ v).alloc o).cell? ⟨B, 1, none⟩ = some v := by
  have hs : ((w1.setCell ⟨B, 0, none⟩ u).setCell ⟨B, 1, none⟩ v).heap.size = w1.heap.size := by simp [World.setCell]
  have e1 : (w1.setCell ⟨B, 0, none⟩ u).cell? ⟨B, 1, none⟩ = some x1 := (World.cell?_setCell_other _ _ _ _ (by simp)).trans d1
  have e0 : (w1.setCell ⟨B, 0, none⟩ u).cell? ⟨B, 0, none⟩ = some u := World.cell?_setCell_same _ _ _ d0
  exact ⟨acell o ((World.cell?_setCell_other _ _ _ _ (by simp)).trans e0) (by rw [hs]; exact hB), acell o (World.cell?_setCell_same _ _ _ e1) (by rw [hs]; exact hB)⟩
/-- Is the number Top - k recorded? -/
def bitB (b k : Int) : Bool := decide (0 ≤ k ∧ k ≤ 63) && b.toNat.testBit k.toNat
/-- The bits gathered so far. -/
def gath (t b n : Int) (K : Nat) (v : Nat) : Prop := ∀ i : Nat, v.testBit i = (decide (i = 0) || (decide (1 ≤ i ∧ i < K) && (decide (0 ≤ t) && bitB b (t - (n - i)))))
theorem gath_start (t b n : Int) : gath t b n 1 1 := by
  intro i
  rw [show (1 : Nat) = 2 ^ 0 from rfl, Nat.testBit_two_pow]
  by_cases h : i = 0
  · subst h; rfl
  · rw [decide_eq_false (fun e => h e.symm), decide_eq_false h, decide_eq_false (by omega)]; rfl
theorem gath_skip (t b n : Int) (K v : Nat) (h : gath t b n K v) (hb : (decide (0 ≤ t) && bitB b (t - (n - K))) = false) : gath t b n (K + 1) v := by
  intro i
  rw [h i]
  by_cases hi : i = K
  · subst hi; rw [hb, Bool.and_false, Bool.and_false]
  · have : decide (1 ≤ i ∧ i < K + 1) = decide (1 ≤ i ∧ i < K) := decide_eq_decide.2 (by omega)
    rw [this]
theorem gath_set (t b n : Int) (K v : Nat) (h : gath t b n K v) (hK : 1 ≤ K) (hb : (decide (0 ≤ t) && bitB b (t - (n - K))) = true) : gath t b n (K + 1) (v ||| 2 ^ K) := by
  intro i
  rw [Nat.testBit_or, Nat.testBit_two_pow, h i]
  by_cases hi : i = K
  · subst hi
    rw [hb, decide_eq_true (rfl : i = i), decide_eq_true (show 1 ≤ i ∧ i < i + 1 by omega)]
    simp
  · have : decide (1 ≤ i ∧ i < K + 1) = decide (1 ≤ i ∧ i < K) := decide_eq_decide.2 (by omega)
    rw [this, decide_eq_false (show ¬ K = i from fun e => hi e.symm), Bool.or_false]
theorem gath_end (t b n : Int) (v : Nat) (h : gath t b n 64 v) (h0 : 0 ≤ b) (h1 : b ≤ 18446744073709551615) (hlt : t < n) (ht : -1 ≤ t) (htb : t = -1 → b = 0) : v = (if n - t < 64 then b.toNat * 2 ^ (n - t).toNat % 18446744073709551616 else 0) ||| 1 := by
  apply Nat.eq_of_testBit_eq
  intro i
  have hb64 : b.toNat < 2 ^ 64 := by omega
  rw [h i, Nat.testBit_or]
  have e1 : Nat.testBit 1 i = decide (i = 0) := by
    rw [show (1 : Nat) = 2 ^ 0 from rfl, Nat.testBit_two_pow]; exact decide_eq_decide.2 eq_comm
  rw [e1, Bool.or_comm]
  congr 1
  by_cases hd : n - t < 64
  · rw [if_pos hd, show (18446744073709551616 : Nat) = 2 ^ 64 from rfl, Nat.testBit_mod_two_pow, ← Nat.shiftLeft_eq, Nat.testBit_shiftLeft]
    by_cases h64 : i < 64
    · by_cases hid : (n - t).toNat ≤ i
      · have e2 : (t - (n - i)).toNat = i - (n - t).toNat := by omega
        by_cases ht0 : 0 ≤ t
        · rw [decide_eq_true (show 1 ≤ i ∧ i < 64 by omega), decide_eq_true ht0, bitB, decide_eq_true (show 0 ≤ t - (n - (i : Int)) ∧ t - (n - (i : Int)) ≤ 63 by omega), decide_eq_true h64, decide_eq_true (show i ≥ (n - t).toNat from hid), e2]
          simp
        · have : b = 0 := htb (by omega)
          subst this
          rw [decide_eq_false ht0]; simp
      · rw [bitB, decide_eq_false (show ¬ (0 ≤ t - (n - (i : Int)) ∧ t - (n - (i : Int)) ≤ 63) by omega), decide_eq_false (show ¬ i ≥ (n - t).toNat from hid)]; simp
    · rw [decide_eq_false (show ¬ (1 ≤ i ∧ i < 64) by omega), decide_eq_false h64]; simp
  · rw [if_neg hd, Nat.zero_testBit]
    by_cases h64 : i < 64
    · rw [bitB, decide_eq_false (show ¬ (0 ≤ t - (n - (i : Int)) ∧ t - (n - (i : Int)) ≤ 63) by omega)]; simp
    · rw [decide_eq_false (show ¬ (1 ≤ i ∧ i < 64) by omega)]; simp
end Hub
open Hub

set_option maxRecDepth 20000 in
set_option maxHeartbeats 4000000 in
theorem xAcc_any (t b n : Int) (w : World) (h0 : 0 ≤ b) (h1 : b ≤ 18446744073709551615) : Calls Try.prog 10 #[.agg #[.int .i64 t, .int .u64 b], .int .i64 n] w fun e w' => e = .returned (.tuple #[.agg #[.int .i64 (acc t b n).1, .int .u64 (acc t b n).2.1], .bool (acc t b n).2.2]) ∧ Below w.heap.size w w' := by
  have HC := Lib.hid (fun w => xChk_any t b w h0 h1)
  have HB := Lib.hid (fun k w => bit_any t b k w h0)
  have hW := ((Below.refl w.heap.size w).alloc (Nat.le_refl _) (.cells #[.int .i64 t, .int .u64 b] 24)).alloc (by simp) (.cells #[.int .i64 0, .int .u64 0] 24)
  have HW := Lib.hid hW
  clear hW
  by_cases hc : chk t b = 0
  · obtain ⟨ht1, ht2, ht3⟩ := chk_zero hc
    rw [hc] at HC
    by_cases hn : n < 0 ∨ 1099511627776 < n
    · have hv : acc t b n = (t, b, false) := by rw [acc, if_pos (by omega)]
      rw [hv]; clear hv ht3 hc h1
      go_enter Try.func10, Try.ntmps10
      go_wp2_with fail
      refine (HC.out _).mono ?_
      rintro e w1 ⟨rfl, hb1⟩
      have hb : Below w.heap.size w w1 := HW.out.trans (hb1.mono (by simp; omega))
      have c0 : w1.cell? ⟨w.heap.size, 0, none⟩ = some (.int .i64 t) := (hb1.cell (p := ⟨w.heap.size, 0, none⟩) (by simp; omega)).trans (by simp)
      have c1 : w1.cell? ⟨w.heap.size, 1, none⟩ = some (.int .u64 b) := (hb1.cell (p := ⟨w.heap.size, 1, none⟩) (by simp; omega)).trans (by simp)
      have d0 : w1.cell? ⟨w.heap.size + 1, 0, none⟩ = some (.int .i64 0) := (hb1.cell (p := ⟨w.heap.size + 1, 0, none⟩) (by simp)).trans (by simp)
      have d1 : w1.cell? ⟨w.heap.size + 1, 1, none⟩ = some (.int .u64 0) := (hb1.cell (p := ⟨w.heap.size + 1, 1, none⟩) (by simp)).trans (by simp)
      have f0 : w1.frozen? ⟨w.heap.size + 1, 0, none⟩ = false := (hb1.frozen (p := ⟨w.heap.size + 1, 0, none⟩) (by simp)).trans (by simp)
      have f1 : w1.frozen? ⟨w.heap.size + 1, 1, none⟩ = false := (hb1.frozen (p := ⟨w.heap.size + 1, 1, none⟩) (by simp)).trans (by simp)
      have hs1 : w.heap.size + 1 < w1.heap.size := by have := hb1.size; simp at this; omega
      have hs0 : w.heap.size < w1.heap.size := by omega
      go_wp2_with fail
      all_goals (refine bodyPost_ret (v := .tuple #[.agg #[.int .i64 t, .int .u64 b], .bool false]) ?_ rfl ⟨rfl, (hb.setCell (p := ⟨w.heap.size + 1, 0, none⟩) (by simp) _).setCell (p := ⟨w.heap.size + 1, 1, none⟩) (by simp) _⟩; simp [results, Try.results10, go_sem, d0, d1])
    · have hn1 : 0 ≤ n := by omega
      have hn2 : n ≤ 1099511627776 := by omega
      by_cases hlt : t < n
      · have hle : ¬ n ≤ t := by omega
        have HG := Lib.hid (fun v h => gath_end t b n v h h0 h1 hlt ht1 ht3)
        have hv : acc t b n = (n, (((if n - t < 64 then b.toNat * 2 ^ (n - t).toNat % 18446744073709551616 else 0) ||| 1 : Nat) : Int), true) := by rw [acc, if_neg (by omega), if_pos hlt]
        generalize ((if n - t < 64 then b.toNat * 2 ^ (n - t).toNat % 18446744073709551616 else 0) ||| 1 : Nat) = R at *
        rw [hv]; clear hv hc h1 ht3 hn
        go_enter Try.func10, Try.ntmps10
        go_wp2_with fail
        refine (HC.out _).mono ?_
        rintro e w1 ⟨rfl, hb1⟩
        have hb : Below w.heap.size w w1 := HW.out.trans (hb1.mono (by simp; omega))
        have c0 : w1.cell? ⟨w.heap.size, 0, none⟩ = some (.int .i64 t) := (hb1.cell (p := ⟨w.heap.size, 0, none⟩) (by simp; omega)).trans (by simp)
        have c1 : w1.cell? ⟨w.heap.size, 1, none⟩ = some (.int .u64 b) := (hb1.cell (p := ⟨w.heap.size, 1, none⟩) (by simp; omega)).trans (by simp)
        have d0 : w1.cell? ⟨w.heap.size + 1, 0, none⟩ = some (.int .i64 0) := (hb1.cell (p := ⟨w.heap.size + 1, 0, none⟩) (by simp)).trans (by simp)
        have d1 : w1.cell? ⟨w.heap.size + 1, 1, none⟩ = some (.int .u64 0) := (hb1.cell (p := ⟨w.heap.size + 1, 1, none⟩) (by simp)).trans (by simp)
        have f0 : w1.frozen? ⟨w.heap.size + 1, 0, none⟩ = false := (hb1.frozen (p := ⟨w.heap.size + 1, 0, none⟩) (by simp)).trans (by simp)
        have f1 : w1.frozen? ⟨w.heap.size + 1, 1, none⟩ = false := (hb1.frozen (p := ⟨w.heap.size + 1, 1, none⟩) (by simp)).trans (by simp)
        have hs1 : w.heap.size + 1 < w1.heap.size := by have := hb1.size; simp at this; omega
        have hs0 : w.heap.size < w1.heap.size := by omega
        go_wp2_with fail
        go_loopw [7] (fun i wr => ∃ k : Nat, 1 ≤ k ∧ k ≤ 64 ∧ i = .int .i64 k ∧ Below (w.heap.size + 2) ((w.alloc (.cells #[.int .i64 t, .int .u64 b] 24)).alloc (.cells #[.int .i64 0, .int .u64 0] 24)) wr ∧ w1.heap.size < wr.heap.size ∧ wr.cell? ⟨w1.heap.size, 0, none⟩ = some (.int .i64 n) ∧ wr.frozen? ⟨w1.heap.size, 1, none⟩ = false ∧ ∃ (v : Nat) (x : Int), x = v ∧ v < 18446744073709551616 ∧ gath t b n k v ∧ wr.cell? ⟨w1.heap.size, 1, none⟩ = some (.int .u64 x)) (fun i _ => 64 - (intOf i).toNat)
        case atStart => exact ⟨1, by omega, by omega, rfl, (hb1.mono (by simp)).alloc (by omega) _, by simp, by simp, by simp, 1, 1, rfl, by omega, gath_start t b n, by simp⟩
        case round =>
          obtain ⟨k, hk1, hk, rfl, hbr, hsz, e0, fe, v, x, hx, hv64, hg, e1⟩ := hrel
          have HV := Lib.hid (And.intro hx (And.intro hv64 hg))
          clear hx hv64 hg c0 c1 d0 d1 f0 f1
          have c0 : wr.cell? ⟨w.heap.size, 0, none⟩ = some (.int .i64 t) := (hbr.cell (p := ⟨w.heap.size, 0, none⟩) (by simp)).trans (by simp)
          have c1 : wr.cell? ⟨w.heap.size, 1, none⟩ = some (.int .u64 b) := (hbr.cell (p := ⟨w.heap.size, 1, none⟩) (by simp)).trans (by simp)
          have d0 : wr.cell? ⟨w.heap.size + 1, 0, none⟩ = some (.int .i64 0) := (hbr.cell (p := ⟨w.heap.size + 1, 0, none⟩) (by simp)).trans (by simp)
          have d1 : wr.cell? ⟨w.heap.size + 1, 1, none⟩ = some (.int .u64 0) := (hbr.cell (p := ⟨w.heap.size + 1, 1, none⟩) (by simp)).trans (by simp)
          have f0 : wr.frozen? ⟨w.heap.size + 1, 0, none⟩ = false := (hbr.frozen (p := ⟨w.heap.size + 1, 0, none⟩) (by simp)).trans (by simp)
          have f1 : wr.frozen? ⟨w.heap.size + 1, 1, none⟩ = false := (hbr.frozen (p := ⟨w.heap.size + 1, 1, none⟩) (by simp)).trans (by simp)
          have hz0 : w.heap.size < wr.heap.size := by omega
          by_cases hk2 : k ≤ 63
          · have hki : (k : Int) ≤ 63 := by omega
            by_cases ht0 : 0 ≤ t
            · cases hbit : bitB b (t - (n - k)) with
              | false =>
                have HBk := Lib.hid hbit
                have HS := Lib.hid (gath_skip t b n k v HV.out.2.2 (by rw [hbit, Bool.and_false]))
                clear hbit
                unfold bitB at HBk
                go_wp2_with fail
                refine (HB.out _ _).mono ?_
                rw [HBk.out]
                rintro e w3 ⟨rfl, rfl⟩
                go_wp2_with fail
                go_roundw
                case rel => exact ⟨k + 1, by omega, by omega, by go_num, hbr.alloc (by omega) _, by simp; omega, acell _ e0 hsz, afroz _ fe hsz, v, x, HV.out.1, HV.out.2.1, HS.out, acell _ e1 hsz⟩
                case measure => simp [intOf]; omega
              | true =>
                have HBk := Lib.hid hbit
                have HS := Lib.hid (gath_set t b n k v HV.out.2.2 hk1 (by rw [hbit, decide_eq_true ht0]; rfl))
                have HO := Lib.hid (acc_or x k (by omega) (by have := HV.out.1; omega) (by have := HV.out.1; have := HV.out.2.1; omega))
                have he1 := acell (.cells #[.int .i64 t, .int .u64 b] 24) e1 hsz
                have hf1 := afroz (.cells #[.int .i64 t, .int .u64 b] 24) fe hsz
                have he0 := acell (.cells #[.int .i64 t, .int .u64 b] 24) e0 hsz
                clear hbit
                unfold bitB at HBk
                go_wp2_with fail
                refine (HB.out _ _).mono ?_
                rw [HBk.out]
                rintro e w3 ⟨rfl, rfl⟩
                go_wp2_with fail
                go_region
                go_wp2_with fail
                rw [HO.out]
                go_roundw
                case rel =>
                  have hsS : ∀ u, (wr.setCell ⟨w1.heap.size, 1, none⟩ u).heap.size = wr.heap.size := fun u => by simp [World.setCell]
                  refine ⟨k + 1, by omega, by omega, by go_num, ((hbr.setCell (p := ⟨w1.heap.size, 1, none⟩) (by show w.heap.size + 2 ≤ w1.heap.size; omega) _).alloc (by rw [hsS]; omega) _).drew, by show w1.heap.size < (World.alloc _ _).heap.size; rw [World.size_alloc, hsS]; omega, acell _ ((World.cell?_setCell_other _ _ _ _ (by simp)).trans e0) (by rw [hsS]; exact hsz), afroz _ ((World.frozen?_setCell _ _ _ _).trans fe) (by rw [hsS]; exact hsz), v ||| 2 ^ k, _, ?_, ?_, HS.out, acell _ (World.cell?_setCell_same _ _ _ e1) (by rw [hsS]; exact hsz)⟩
                  · rw [HV.out.1, Int.toNat_natCast]
                  · have h1 := HV.out.2.1
                    exact Nat.or_lt_two_pow (n := 64) h1 (Nat.pow_lt_pow_right (by decide) (by omega))
                case measure => simp [intOf]; omega
            · go_wp2_with fail
              go_roundw
              case rel => exact ⟨k + 1, by omega, by omega, by go_num, hbr, hsz, e0, fe, v, x, HV.out.1, HV.out.2.1, gath_skip t b n k v HV.out.2.2 (by rw [decide_eq_false ht0]; rfl), e1⟩
              case measure => simp [intOf]; omega
          · have hki : ¬ (k : Int) ≤ 63 := by omega
            have hk64 : k = 64 := by omega
            have hvR : x = R := by rw [HV.out.1, HG.out v (hk64 ▸ HV.out.2.2)]
            have HR := Lib.hid hvR
            clear hk64 hvR
            go_wp2_with fail
            rw [← HR.out]
            refine bodyPost_ret (v := .tuple #[.agg #[.int .i64 n, .int .u64 x], .bool true]) ?_ rfl ⟨rfl, ?_⟩
            · simp [results, Try.results10, go_sem, d0, d1]
            · exact ((HW.out.trans (hbr.mono (by omega))).setCell (p := ⟨w.heap.size + 1, 0, none⟩) (by simp) _).setCell (p := ⟨w.heap.size + 1, 1, none⟩) (by simp) _
      · have hle : n ≤ t := by omega
        by_cases h63 : 63 < t - n
        · have hv : acc t b n = (t, b, false) := by rw [acc, if_pos (by omega)]
          rw [hv]; clear hv hc h1 ht3 hn
          go_enter Try.func10, Try.ntmps10
          go_wp2_with fail
          refine (HC.out _).mono ?_
          rintro e w1 ⟨rfl, hb1⟩
          have hb : Below w.heap.size w w1 := HW.out.trans (hb1.mono (by simp; omega))
          have c0 : w1.cell? ⟨w.heap.size, 0, none⟩ = some (.int .i64 t) := (hb1.cell (p := ⟨w.heap.size, 0, none⟩) (by simp; omega)).trans (by simp)
          have c1 : w1.cell? ⟨w.heap.size, 1, none⟩ = some (.int .u64 b) := (hb1.cell (p := ⟨w.heap.size, 1, none⟩) (by simp; omega)).trans (by simp)
          have d0 : w1.cell? ⟨w.heap.size + 1, 0, none⟩ = some (.int .i64 0) := (hb1.cell (p := ⟨w.heap.size + 1, 0, none⟩) (by simp)).trans (by simp)
          have d1 : w1.cell? ⟨w.heap.size + 1, 1, none⟩ = some (.int .u64 0) := (hb1.cell (p := ⟨w.heap.size + 1, 1, none⟩) (by simp)).trans (by simp)
          have f0 : w1.frozen? ⟨w.heap.size + 1, 0, none⟩ = false := (hb1.frozen (p := ⟨w.heap.size + 1, 0, none⟩) (by simp)).trans (by simp)
          have f1 : w1.frozen? ⟨w.heap.size + 1, 1, none⟩ = false := (hb1.frozen (p := ⟨w.heap.size + 1, 1, none⟩) (by simp)).trans (by simp)
          have hs1 : w.heap.size + 1 < w1.heap.size := by have := hb1.size; simp at this; omega
          have hs0 : w.heap.size < w1.heap.size := by omega
          go_wp2_with fail
          all_goals (refine bodyPost_ret (v := .tuple #[.agg #[.int .i64 t, .int .u64 b], .bool false]) ?_ rfl ⟨rfl, (hb.setCell (p := ⟨w.heap.size + 1, 0, none⟩) (by simp) _).setCell (p := ⟨w.heap.size + 1, 1, none⟩) (by simp) _⟩; simp [results, Try.results10, go_sem, d0, d1])
        · have HBd := Lib.hid (show bitB b (t - n) = b.toNat.testBit (t - n).toNat from by rw [bitB, decide_eq_true (show 0 ≤ t - n ∧ t - n ≤ 63 by omega), Bool.true_and])
          cases hbt : b.toNat.testBit (t - n).toNat with
          | true =>
            have hv : acc t b n = (t, b, false) := by rw [acc, if_neg (by omega), if_neg hlt, if_pos hbt]
            have HBk := Lib.hid (HBd.out.trans hbt)
            unfold bitB at HBk
            rw [hv]; clear hv hc h1 ht3 hn hbt
            go_enter Try.func10, Try.ntmps10
            go_wp2_with fail
            refine (HC.out _).mono ?_
            rintro e w1 ⟨rfl, hb1⟩
            have hb : Below w.heap.size w w1 := HW.out.trans (hb1.mono (by simp; omega))
            have c0 : w1.cell? ⟨w.heap.size, 0, none⟩ = some (.int .i64 t) := (hb1.cell (p := ⟨w.heap.size, 0, none⟩) (by simp; omega)).trans (by simp)
            have c1 : w1.cell? ⟨w.heap.size, 1, none⟩ = some (.int .u64 b) := (hb1.cell (p := ⟨w.heap.size, 1, none⟩) (by simp; omega)).trans (by simp)
            have d0 : w1.cell? ⟨w.heap.size + 1, 0, none⟩ = some (.int .i64 0) := (hb1.cell (p := ⟨w.heap.size + 1, 0, none⟩) (by simp)).trans (by simp)
            have d1 : w1.cell? ⟨w.heap.size + 1, 1, none⟩ = some (.int .u64 0) := (hb1.cell (p := ⟨w.heap.size + 1, 1, none⟩) (by simp)).trans (by simp)
            have f0 : w1.frozen? ⟨w.heap.size + 1, 0, none⟩ = false := (hb1.frozen (p := ⟨w.heap.size + 1, 0, none⟩) (by simp)).trans (by simp)
            have f1 : w1.frozen? ⟨w.heap.size + 1, 1, none⟩ = false := (hb1.frozen (p := ⟨w.heap.size + 1, 1, none⟩) (by simp)).trans (by simp)
            have hs1 : w.heap.size + 1 < w1.heap.size := by have := hb1.size; simp at this; omega
            have hs0 : w.heap.size < w1.heap.size := by omega
            go_wp2_with fail
            refine (HB.out _ _).mono ?_
            rw [HBk.out]
            rintro e w3 ⟨rfl, rfl⟩
            go_wp2_with fail
            all_goals first | (exfalso; omega) | (refine bodyPost_ret (v := .tuple #[.agg #[.int .i64 t, .int .u64 b], .bool false]) ?_ rfl ⟨rfl, ?_⟩)
            · have r := two_cells d0 d1 hs1 (.int .i64 t) (.int .u64 b) (.cells #[.int .i64 t, .int .u64 b] 24)
              simp [results, Try.results10, go_sem, r.1, r.2]
            · exact ((hb.setCell (p := ⟨w.heap.size + 1, 0, none⟩) (by simp) _).setCell (p := ⟨w.heap.size + 1, 1, none⟩) (by simp) _).alloc (by simp [World.setCell]; omega) _
          | false =>
            have hv : acc t b n = (t, bits .or .u64 b (IntKind.u64.wrap (2 ^ (t - n).toNat)), true) := by rw [acc, if_neg (by omega), if_neg hlt, if_neg (by rw [hbt]; exact Bool.false_ne_true), acc_or b _ (by omega) h0 h1]
            have HBk := Lib.hid (HBd.out.trans hbt)
            unfold bitB at HBk
            rw [hv]; clear hv hc h1 ht3 hn hbt
            go_enter Try.func10, Try.ntmps10
            go_wp2_with fail
            refine (HC.out _).mono ?_
            rintro e w1 ⟨rfl, hb1⟩
            have hb : Below w.heap.size w w1 := HW.out.trans (hb1.mono (by simp; omega))
            have c0 : w1.cell? ⟨w.heap.size, 0, none⟩ = some (.int .i64 t) := (hb1.cell (p := ⟨w.heap.size, 0, none⟩) (by simp; omega)).trans (by simp)
            have c1 : w1.cell? ⟨w.heap.size, 1, none⟩ = some (.int .u64 b) := (hb1.cell (p := ⟨w.heap.size, 1, none⟩) (by simp; omega)).trans (by simp)
            have d0 : w1.cell? ⟨w.heap.size + 1, 0, none⟩ = some (.int .i64 0) := (hb1.cell (p := ⟨w.heap.size + 1, 0, none⟩) (by simp)).trans (by simp)
            have d1 : w1.cell? ⟨w.heap.size + 1, 1, none⟩ = some (.int .u64 0) := (hb1.cell (p := ⟨w.heap.size + 1, 1, none⟩) (by simp)).trans (by simp)
            have f0 : w1.frozen? ⟨w.heap.size + 1, 0, none⟩ = false := (hb1.frozen (p := ⟨w.heap.size + 1, 0, none⟩) (by simp)).trans (by simp)
            have f1 : w1.frozen? ⟨w.heap.size + 1, 1, none⟩ = false := (hb1.frozen (p := ⟨w.heap.size + 1, 1, none⟩) (by simp)).trans (by simp)
            have hs1 : w.heap.size + 1 < w1.heap.size := by have := hb1.size; simp at this; omega
            have hs0 : w.heap.size < w1.heap.size := by omega
            go_wp2_with fail
            refine (HB.out _ _).mono ?_
            rw [HBk.out]
            rintro e w3 ⟨rfl, rfl⟩
            go_wp2_with fail
            go_region
            go_wp2_with fail
            refine bodyPost_ret (v := .tuple #[.agg #[.int .i64 t, .int .u64 (bits .or .u64 b (IntKind.u64.wrap (2 ^ (t - n).toNat)))], .bool true]) ?_ rfl ⟨rfl, ?_⟩
            · have r := two_cells d0 d1 hs1 (.int .i64 t) (.int .u64 (bits .or .u64 b (IntKind.u64.wrap (2 ^ (t - n).toNat)))) (.cells #[.int .i64 t, .int .u64 b] 24)
              simp [results, Try.results10, go_sem, r.1, r.2]
            · exact (((hb.setCell (p := ⟨w.heap.size + 1, 0, none⟩) (by simp) _).setCell (p := ⟨w.heap.size + 1, 1, none⟩) (by simp) _).alloc (by simp [World.setCell]; omega) _).drew
  · have hv : acc t b n = (t, b, false) := by rw [acc, if_pos (.inl hc)]
    rw [hv]; clear hv h1
    have hcb : (chk t b != 0) = true := by simpa using hc
    clear hc
    generalize chk t b = r at *
    go_enter Try.func10, Try.ntmps10
    go_wp2_with fail
    refine (HC.out _).mono ?_
    rintro e w1 ⟨rfl, hb1⟩
    have hb : Below w.heap.size w w1 := HW.out.trans (hb1.mono (by simp; omega))
    have c0 : w1.cell? ⟨w.heap.size, 0, none⟩ = some (.int .i64 t) := (hb1.cell (p := ⟨w.heap.size, 0, none⟩) (by simp; omega)).trans (by simp)
    have c1 : w1.cell? ⟨w.heap.size, 1, none⟩ = some (.int .u64 b) := (hb1.cell (p := ⟨w.heap.size, 1, none⟩) (by simp; omega)).trans (by simp)
    have d0 : w1.cell? ⟨w.heap.size + 1, 0, none⟩ = some (.int .i64 0) := (hb1.cell (p := ⟨w.heap.size + 1, 0, none⟩) (by simp)).trans (by simp)
    have d1 : w1.cell? ⟨w.heap.size + 1, 1, none⟩ = some (.int .u64 0) := (hb1.cell (p := ⟨w.heap.size + 1, 1, none⟩) (by simp)).trans (by simp)
    have f0 : w1.frozen? ⟨w.heap.size + 1, 0, none⟩ = false := (hb1.frozen (p := ⟨w.heap.size + 1, 0, none⟩) (by simp)).trans (by simp)
    have f1 : w1.frozen? ⟨w.heap.size + 1, 1, none⟩ = false := (hb1.frozen (p := ⟨w.heap.size + 1, 1, none⟩) (by simp)).trans (by simp)
    have hs1 : w.heap.size + 1 < w1.heap.size := by have := hb1.size; simp at this; omega
    have hs0 : w.heap.size < w1.heap.size := by omega
    go_wp2_with fail
    all_goals (refine bodyPost_ret (v := .tuple #[.agg #[.int .i64 t, .int .u64 b], .bool false]) ?_ rfl ⟨rfl, (hb.setCell (p := ⟨w.heap.size + 1, 0, none⟩) (by simp) _).setCell (p := ⟨w.heap.size + 1, 1, none⟩) (by simp) _⟩; simp [results, Try.results10, go_sem, d0, d1])
end Go.Proofs.Ytegngjdeifbdiaa
