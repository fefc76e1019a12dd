/-
  The walk of the chapter's examples.
-/
import Derived.Test.YtegngjdeifbdiaaRepD
import Derived.Outline
open Go Go.RowKit Go.Proofs
namespace Go.Proofs.Ytegngjdeifbdiaa
namespace Hub
/-- Block B holds u and v, and below N the world is as W. -/
def HasW (B N : Nat) (W : World) (u v : Value) (X : World) : Prop := X.cell? ⟨B, 0, none⟩ = some u ∧ X.cell? ⟨B, 1, none⟩ = some v ∧ X.frozen? ⟨B, 0, none⟩ = false ∧ X.frozen? ⟨B, 1, none⟩ = false ∧ B < X.heap.size ∧ Below N W X
theorem HasW.set {B N : Nat} {W X : World} {u v u' v' : Value} (h : HasW B N W u v X) (hN : N ≤ B) : HasW B N W u' v' ((X.setCell ⟨B, 0, none⟩ u').setCell ⟨B, 1, none⟩ v') := by
  obtain ⟨c0, c1, f0, f1, hs, hb⟩ := h
  have e1 : (X.setCell ⟨B, 0, none⟩ u').cell? ⟨B, 1, none⟩ = some v := (World.cell?_setCell_other _ _ _ _ (by simp)).trans c1
  refine ⟨(World.cell?_setCell_other _ _ _ _ (by simp)).trans (World.cell?_setCell_same _ _ _ c0), World.cell?_setCell_same _ _ _ e1, ?_, ?_, by simpa [World.setCell] using hs, (hb.setCell (p := ⟨B, 0, none⟩) hN _).setCell (p := ⟨B, 1, none⟩) hN _⟩
  · rw [World.frozen?_setCell, World.frozen?_setCell]; exact f0
  · rw [World.frozen?_setCell, World.frozen?_setCell]; exact f1
theorem HasW.other {B N c : Nat} {W X : World} {u v x : Value} {o : Nat} (h : HasW B N W u v X) (hN : N ≤ c) (hc : c ≠ B) : HasW B N W u v (X.setCell ⟨c, o, none⟩ x) := by
  obtain ⟨c0, c1, f0, f1, hs, hb⟩ := h
  refine ⟨(World.cell?_setCell_other _ _ _ _ (by simp; try omega)).trans c0, (World.cell?_setCell_other _ _ _ _ (by simp; try omega)).trans c1, ?_, ?_, by simpa [World.setCell] using hs, hb.setCell (p := ⟨c, o, none⟩) hN _⟩
  · rw [World.frozen?_setCell]; exact f0
  · rw [World.frozen?_setCell]; exact f1
theorem HasW.alloc {B N : Nat} {W X : World} {u v : Value} (h : HasW B N W u v X) (hN : N ≤ X.heap.size) (o : Obj) : HasW B N W u v (X.alloc o) := by
  obtain ⟨c0, c1, f0, f1, hs, hb⟩ := h
  exact ⟨acell o c0 hs, acell o c1 hs, afroz o f0 hs, afroz o f1 hs, by rw [World.size_alloc]; omega, hb.alloc hN o⟩
theorem after_alloc {wr w3 : World} {x0 x1 : Value} {T : TypeId} (hb : Below (wr.alloc (.cells #[x0, x1] T)).drew.heap.size (wr.alloc (.cells #[x0, x1] T)).drew w3) :
    w3.cell? ⟨wr.heap.size, 0, none⟩ = some x0 ∧ w3.cell? ⟨wr.heap.size, 1, none⟩ = some x1 ∧ w3.frozen? ⟨wr.heap.size, 0, none⟩ = false ∧ w3.frozen? ⟨wr.heap.size, 1, none⟩ = false ∧ wr.heap.size < w3.heap.size := by
  have hs : (wr.alloc (.cells #[x0, x1] T)).drew.heap.size = wr.heap.size + 1 := by show (wr.alloc (.cells #[x0, x1] T)).heap.size = _; simp
  rw [hs] at hb
  refine ⟨(hb.cell (p := ⟨wr.heap.size, 0, none⟩) (by simp)).trans ?_, (hb.cell (p := ⟨wr.heap.size, 1, none⟩) (by simp)).trans ?_, (hb.frozen (p := ⟨wr.heap.size, 0, none⟩) (by simp)).trans ?_, (hb.frozen (p := ⟨wr.heap.size, 1, none⟩) (by simp)).trans ?_, ?_⟩
  · simp
  · simp
  · simp
  · simp
  · have := hb.size; rw [hs] at this; omega
theorem after_a {wr w3 : World} (hb : Below wr.drew.heap.size wr.drew w3) : Below wr.heap.size wr w3 := ⟨hb.os, hb.tape, hb.output, hb.size, hb.block⟩
theorem after_b {wr w3 : World} {o : Obj} (hb : Below (wr.alloc o).drew.heap.size (wr.alloc o).drew w3) : Below wr.heap.size wr w3 := by
  have h1 : Below wr.heap.size wr (wr.alloc o).drew := ((Below.refl _ _).alloc (Nat.le_refl _) _).drew
  exact h1.trans (hb.mono h1.size)
def aTop : Nat → Int | 0 => -1 | 1 => 5 | 2 => 5 | 3 => 5 | _ => 70
def aBits : Nat → Int | 0 => 0 | 1 => 1 | 2 => 5 | 3 => 5 | 4 => 1 | 5 => 1 | _ => 9223372036854775809
def aNum : Nat → Int | 0 => 5 | 1 => 3 | 2 => 5 | 3 => 70 | 4 => 6 | _ => 7
def aOk : Nat → Bool | 0 => true | 1 => true | 2 => false | 3 => true | 4 => false | _ => true
theorem acc_round : ∀ k : Fin 6, acc (aTop k) (aBits k) (aNum k) = (aTop (k + 1), aBits (k + 1), aOk k) := by decide +kernel
theorem aSame : ∀ k : Fin 6, aOk k = false → aTop (k + 1) = aTop k ∧ aBits (k + 1) = aBits k := by decide
theorem aBits_in : ∀ k : Fin 7, 0 ≤ aBits k ∧ aBits k ≤ 18446744073709551615 := by decide
theorem msg0 : msg 4 71 [111, 110] = [8, 142, 1, 4, 111, 110] := by
  rw [msg, encT, enc, enc, enc, show zig 4 = 8 from rfl, show zig 71 = 142 from rfl, show zig (([111, 110] : List UInt8).length : Int) = 4 from rfl, grp_small 8 (by decide), grp_big 142 (by decide), grp_small (142 / 128) (by decide), grp_small 4 (by decide)]; rfl
def sl0 : List UInt8 := sealD 9 [8, 142, 1, 4, 111, 110]
theorem seal0 : sealR 9 4 71 [111, 110] = (sl0, 0) := by
  rw [sealR, if_neg (by decide), if_neg (by decide), msg0]; rfl
theorem open0 : openR 9 4 70 9223372036854775809 sl0 = ([111, 110], (71, 3), 0) := by decide +kernel
theorem open1 : openR 9 4 71 3 sl0 = ([], (71, 3), 18) := by decide +kernel
end Hub
open Hub
theorem wNewW_any (w : World) : Calls Try.prog 18 #[] w fun e w' => e = .returned (.agg #[.int .i64 (-1), .int .u64 0]) ∧ w' = w.alloc (.cells #[.int .i64 (-1), .int .u64 0] 24) := by
  go_enter Try.func18, Try.ntmps18
  go_wp2
  refine bodyPost_ret (v := .agg #[.int .i64 (-1), .int .u64 0]) ?_ rfl ⟨rfl, ?_⟩
  · simp [results, Try.results18, go_sem]
  · rfl

set_option maxRecDepth 20000 in
set_option maxHeartbeats 16000000 in
theorem awake_any (w : World) : Calls Try.prog 13 #[] w fun e w' => e = .returned (.bool true) ∧ Below w.heap.size w w' := by
  have HC1 := Lib.hid (fun w => wChk_any (-1) 0 w (by decide) (by decide))
  have HC2 := Lib.hid (fun w => wChk_any 0 0 w (by decide) (by decide))
  rw [show chk (-1) 0 = 0 from by decide] at HC1
  rw [show chk 0 0 = 2 from by decide] at HC2
  have HN := Lib.hid wNewW_any
  have HA := Lib.hid (fun (k : Fin 6) w => wAcc_any (aTop k) (aBits k) (aNum k) w (aBits_in ⟨k, by omega⟩).1 (aBits_in ⟨k, by omega⟩).2)
  simp only [acc_round] at HA
  have HSl := Lib.hid (fun w => wSeal_any 9 4 71 { data := #[111, 110] } w (by decide) (by decide) (by decide))
  rw [show sealR (9 : Int).toNat 4 71 (bl { data := #[111, 110] }) = (sl0, 0) from seal0] at HSl
  have HO1 := Lib.hid (fun w => wOpen_any 9 4 70 9223372036854775809 (mk sl0) w (by decide) (by decide) (by decide) (by decide) (by rw [size_mk]; decide +kernel))
  rw [show openR (9 : Int).toNat 4 70 9223372036854775809 (bl (mk sl0)) = _ from open0] at HO1
  have HO2 := Lib.hid (fun w => wOpen_any 9 4 71 3 (mk sl0) w (by decide) (by decide) (by decide) (by decide) (by rw [size_mk]; decide +kernel))
  rw [show openR (9 : Int).toNat 4 71 3 (bl (mk sl0)) = _ from open1] at HO2
  simp only at HSl HO1 HO2
  rw [show mk [111, 110] = ({ data := #[111, 110] } : ByteArray) from rfl] at HO1
  rw [show mk [] = ({ data := #[] } : ByteArray) from rfl] at HO2
  generalize mk sl0 = SB at *
  go_enter Try.func13, Try.ntmps13
  go_wp2_with fail
  refine (HN.out _).mono ?_
  rintro e w1 ⟨rfl, rfl⟩
  go_wp2_with fail
  refine (HC1.out _).mono ?_
  rintro e w2 ⟨rfl, rfl⟩
  go_wp2_with fail
  refine (HC2.out _).mono ?_
  rintro e w2 ⟨rfl, rfl⟩
  go_wp2_with fail
  go_loopw [4] (fun i wr => ∃ k : Nat, k ≤ 6 ∧ i = .int .i64 k ∧ wr.cell? ⟨w.heap.size + 3, 0, none⟩ = some (.int .i64 (aTop k)) ∧ wr.cell? ⟨w.heap.size + 3, 1, none⟩ = some (.int .u64 (aBits k)) ∧ wr.frozen? ⟨w.heap.size + 3, 0, none⟩ = false ∧ wr.frozen? ⟨w.heap.size + 3, 1, none⟩ = false ∧ w.heap.size + 3 < wr.heap.size ∧
    Below (w.heap.size + 2) ((w.alloc (.cells #[.int .i64 5, .int .i64 3, .int .i64 5, .int .i64 70, .int .i64 6, .int .i64 7] 44)).alloc (.cells #[.bool true, .bool true, .bool false, .bool true, .bool false, .bool true] 45)) wr) (fun i _ => 6 - (intOf i).toNat)
  case atStart =>
    refine ⟨0, by omega, rfl, ?_, ?_, ?_, ?_, ?_, ?_⟩
    · exact acell _ (acell _ ((World.cell?_alloc_at _ _ _ _ (by simp only [World.size_alloc])).trans rfl) (by simp only [World.size_alloc]; omega)) (by simp only [World.size_alloc]; omega)
    · exact acell _ (acell _ ((World.cell?_alloc_at _ _ _ _ (by simp only [World.size_alloc])).trans rfl) (by simp only [World.size_alloc]; omega)) (by simp only [World.size_alloc]; omega)
    · exact afroz _ (afroz _ (World.frozen?_alloc_at _ _ _ _ (by simp only [World.size_alloc])) (by simp only [World.size_alloc]; omega)) (by simp only [World.size_alloc]; omega)
    · exact afroz _ (afroz _ (World.frozen?_alloc_at _ _ _ _ (by simp only [World.size_alloc])) (by simp only [World.size_alloc]; omega)) (by simp only [World.size_alloc]; omega)
    · simp only [World.size_alloc]; omega
    · exact ((((Below.refl _ _).alloc (by simp only [World.size_alloc]; omega) _).alloc (by simp only [World.size_alloc]; omega) _).alloc (by simp only [World.size_alloc]; omega) _).alloc (by simp only [World.size_alloc]; omega) _
  case round =>
    obtain ⟨k, hk, rfl, c0, c1, f0, f1, hsz, hbr⟩ := hrel
    by_cases hk6 : k < 6
    · have hki : (k : Int) < 6 := by omega
      have hz0 : w.heap.size < wr.heap.size := by omega
      have hz1 : w.heap.size + 1 < wr.heap.size := by omega
      have HAk := Lib.hid (fun w => HA.out ⟨k, hk6⟩ w)
      simp only at HAk
      have hl : wr.cell? ⟨w.heap.size, k, none⟩ = some (.int .i64 (aNum k)) := by
        rw [hbr.cell (p := ⟨w.heap.size, k, none⟩) (by simp)]
        match k, hk6 with
        | 0, _ => simp [aNum]
        | 1, _ => simp [aNum]
        | 2, _ => simp [aNum]
        | 3, _ => simp [aNum]
        | 4, _ => simp [aNum]
        | 5, _ => simp [aNum]
      have hwt : wr.cell? ⟨w.heap.size + 1, k, none⟩ = some (.bool (aOk k)) := by
        rw [hbr.cell (p := ⟨w.heap.size + 1, k, none⟩) (by simp)]
        match k, hk6 with
        | 0, _ => simp [aOk]
        | 1, _ => simp [aOk]
        | 2, _ => simp [aOk]
        | 3, _ => simp [aOk]
        | 4, _ => simp [aOk]
        | 5, _ => simp [aOk]
      generalize aNum k = n at *
      cases hok : aOk k with
      | false =>
        obtain ⟨s1, s2⟩ := aSame ⟨k, hk6⟩ hok
        simp only at s1 s2
        rw [hok] at hwt HAk
        have HS := Lib.hid (And.intro s1 s2)
        rw [s1, s2] at HAk
        clear hok s1 s2
        generalize aTop k = tk at *
        generalize aBits k = bk at *
        go_wp2_with fail
        go_region_with (go_at_call 9; refine Calls.mono (HAk.out _) ?_; rintro e w3 ⟨rfl, hb3⟩; first | (have hb4 : Below (wr.alloc (.cells #[.int .i64 0, .int .u64 0] 24)).drew.heap.size (wr.alloc (.cells #[.int .i64 0, .int .u64 0] 24)).drew w3 := hb3; obtain ⟨hx0, hx1, hy0, hy1, hx2⟩ := after_alloc hb4) | skip)
        all_goals
          have hB : Below wr.heap.size wr w3 := by first | exact after_a hb3 | exact after_b hb3
          have e0 := (hB.cell (p := ⟨w.heap.size + 3, 0, none⟩) hsz).trans c0
          have e1 := (hB.cell (p := ⟨w.heap.size + 3, 1, none⟩) hsz).trans c1
          have g0 := (hB.frozen (p := ⟨w.heap.size + 3, 0, none⟩) hsz).trans f0
          have g1 := (hB.frozen (p := ⟨w.heap.size + 3, 1, none⟩) hsz).trans f1
          have ewt := (hB.cell (p := ⟨w.heap.size + 1, k, none⟩) hz1).trans hwt
          have hsz3 : w.heap.size + 3 < w3.heap.size := Nat.lt_of_lt_of_le hsz hB.size
          have hz3 : w.heap.size + 1 < w3.heap.size := Nat.lt_of_lt_of_le hz1 hB.size
          have hn1 : ¬ wr.heap.size = w.heap.size + 3 := by omega
          have hn2 : ¬ w.heap.size + 3 = wr.heap.size := by omega
          have hn3 : ¬ w.heap.size + 1 = wr.heap.size := by omega
          have hq : HasW (w.heap.size + 3) (w.heap.size + 2) ((w.alloc (.cells #[.int .i64 5, .int .i64 3, .int .i64 5, .int .i64 70, .int .i64 6, .int .i64 7] 44)).alloc (.cells #[.bool true, .bool true, .bool false, .bool true, .bool false, .bool true] 45)) (.int .i64 tk) (.int .u64 bk) w3 := ⟨e0, e1, g0, g1, hsz3, hbr.trans (hB.mono (by omega))⟩
          have HQ := Lib.hid hq
          clear hq
          go_wp2_with fail
          go_roundw
          case rel => 
            refine ⟨k + 1, by omega, by go_num, ?_⟩
            rw [HS.out.1, HS.out.2]; first | (have hA : Below wr.heap.size wr w3 := after_a hb3; exact (HQ.out.set (by omega)).alloc (by simp [World.setCell]; omega) _) | exact ((HQ.out.other (c := wr.heap.size) (by omega) (by omega)).other (c := wr.heap.size) (by omega) (by omega)).set (by omega)
          case measure => simp [intOf]; omega
      | true =>
        rw [hok] at hwt HAk
        clear hok
        generalize aTop k = tk at *
        generalize aBits k = bk at *
        go_wp2_with fail
        go_region_with (go_at_call 9; refine Calls.mono (HAk.out _) ?_; rintro e w3 ⟨rfl, hb3⟩; first | (have hb4 : Below (wr.alloc (.cells #[.int .i64 0, .int .u64 0] 24)).drew.heap.size (wr.alloc (.cells #[.int .i64 0, .int .u64 0] 24)).drew w3 := hb3; obtain ⟨hx0, hx1, hy0, hy1, hx2⟩ := after_alloc hb4) | skip)
        all_goals
          have hB : Below wr.heap.size wr w3 := by first | exact after_a hb3 | exact after_b hb3
          have e0 := (hB.cell (p := ⟨w.heap.size + 3, 0, none⟩) hsz).trans c0
          have e1 := (hB.cell (p := ⟨w.heap.size + 3, 1, none⟩) hsz).trans c1
          have g0 := (hB.frozen (p := ⟨w.heap.size + 3, 0, none⟩) hsz).trans f0
          have g1 := (hB.frozen (p := ⟨w.heap.size + 3, 1, none⟩) hsz).trans f1
          have ewt := (hB.cell (p := ⟨w.heap.size + 1, k, none⟩) hz1).trans hwt
          have hsz3 : w.heap.size + 3 < w3.heap.size := Nat.lt_of_lt_of_le hsz hB.size
          have hz3 : w.heap.size + 1 < w3.heap.size := Nat.lt_of_lt_of_le hz1 hB.size
          have hn1 : ¬ wr.heap.size = w.heap.size + 3 := by omega
          have hn2 : ¬ w.heap.size + 3 = wr.heap.size := by omega
          have hn3 : ¬ w.heap.size + 1 = wr.heap.size := by omega
          have hq : HasW (w.heap.size + 3) (w.heap.size + 2) ((w.alloc (.cells #[.int .i64 5, .int .i64 3, .int .i64 5, .int .i64 70, .int .i64 6, .int .i64 7] 44)).alloc (.cells #[.bool true, .bool true, .bool false, .bool true, .bool false, .bool true] 45)) (.int .i64 tk) (.int .u64 bk) w3 := ⟨e0, e1, g0, g1, hsz3, hbr.trans (hB.mono (by omega))⟩
          have HQ := Lib.hid hq
          clear hq
          go_wp2_with fail
          go_roundw
          case rel => 
            refine ⟨k + 1, by omega, by go_num, ?_⟩
            first | (have hA : Below wr.heap.size wr w3 := after_a hb3; exact (HQ.out.set (by omega)).alloc (by simp [World.setCell]; omega) _) | exact ((HQ.out.other (c := wr.heap.size) (by omega) (by omega)).other (c := wr.heap.size) (by omega) (by omega)).set (by omega)
          case measure => simp [intOf]; omega
    · have hki : ¬ (k : Int) < 6 := by omega
      obtain rfl : k = 6 := by omega
      have c0' : wr.cell? ⟨w.heap.size + 3, 0, none⟩ = some (.int .i64 70) := c0
      have c1' : wr.cell? ⟨w.heap.size + 3, 1, none⟩ = some (.int .u64 9223372036854775809) := c1
      have hb0 : Below w.heap.size w wr := (((Below.refl _ _).alloc (Nat.le_refl _) _).alloc (by simp) _).trans (hbr.mono (by omega))
      clear c0 c1 HA HC1 HC2 HN hbr
      have hz3 : w.heap.size + 3 < wr.heap.size := hsz
      go_wp2_with fail
      refine (HSl.out _).mono ?_
      rintro e w4 ⟨rfl, hb4⟩
      have e0 := (hb4.cell (p := ⟨w.heap.size + 3, 0, none⟩) hz3).trans c0'
      have e1 := (hb4.cell (p := ⟨w.heap.size + 3, 1, none⟩) hz3).trans c1'
      have hz4 : w.heap.size + 3 < w4.heap.size := Nat.lt_of_lt_of_le hz3 hb4.size
      go_wp2_with fail
      refine (HO1.out _).mono ?_
      rintro e w5 ⟨rfl, hb5⟩
      have g0 := (hb5.cell (p := ⟨w.heap.size + 3, 0, none⟩) hz4).trans e0
      have g1 := (hb5.cell (p := ⟨w.heap.size + 3, 1, none⟩) hz4).trans e1
      have hz5 : w.heap.size + 3 < w5.heap.size := Nat.lt_of_lt_of_le hz4 hb5.size
      go_wp2_with fail
      refine (HO2.out _).mono ?_
      rintro e w6 ⟨rfl, hb6⟩
      have i0 := (hb6.cell (p := ⟨w.heap.size + 3, 0, none⟩) (by simp; omega)).trans (acell _ g0 hz5)
      have i1 := (hb6.cell (p := ⟨w.heap.size + 3, 1, none⟩) (by simp; omega)).trans (acell _ g1 hz5)
      have x0 : w6.cell? ⟨w5.heap.size, 0, none⟩ = some (.int .i64 71) := (hb6.cell (p := ⟨w5.heap.size, 0, none⟩) (by simp)).trans (by simp)
      have x1 : w6.cell? ⟨w5.heap.size, 1, none⟩ = some (.int .u64 3) := (hb6.cell (p := ⟨w5.heap.size, 1, none⟩) (by simp)).trans (by simp)
      have hz6 : w.heap.size + 3 < w6.heap.size := by have := hb6.size; simp at this; omega
      have hz7 : w5.heap.size < w6.heap.size := by have := hb6.size; simp at this; omega
      go_wp2_with fail
      go_ret
      exact ⟨rfl, ((bt (bt (bt (bt hb0 hb4) hb5) ((Below.refl _ _).alloc (Nat.le_refl _) _)) hb6).alloc (by omega) _)⟩
end Go.Proofs.Ytegngjdeifbdiaa
