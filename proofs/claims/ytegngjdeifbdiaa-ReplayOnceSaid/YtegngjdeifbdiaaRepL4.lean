/-
  The walk of the fourth law: each number is accepted at most once.
-/
import Derived.Test.YtegngjdeifbdiaaRepP
import Derived.Test.YtegngjdeifbdiaaRepK
import Derived.Test.YtegngjdeifbdiaaWirF
open Go Go.RowKit Go.Proofs
namespace Go.Proofs.Ytegngjdeifbdiaa
namespace Hub
theorem HasW.grown {B N : Nat} {W X Y : World} {u v : Value} {row : Option Nat} (h : HasW B N W u v X) (k : X.grownBy Y row) (hr : row ≠ some B) (hN : ∀ g, row = some g → N ≤ g) (hNX : N ≤ X.heap.size) : HasW B N W u v Y := by
  obtain ⟨c0, c1, f0, f1, hs, hb⟩ := h
  have hB := k.block B hs (fun e => hr e.symm)
  refine ⟨?_, ?_, ?_, ?_, Nat.lt_of_lt_of_le hs k.size, k.os.trans hb.os, k.tape.trans hb.tape, k.output.trans hb.output, Nat.le_trans hb.size k.size, fun i hi => (k.block i (by omega) (by intro e; have := hN i e.symm; omega)).trans (hb.block i hi)⟩
  · rw [← c0]; unfold World.cell?; rw [hB]
  · rw [← c1]; unfold World.cell?; rw [hB]
  · rw [← f0]; unfold World.frozen?; rw [hB]
  · rw [← f1]; unfold World.frozen?; rw [hB]
theorem grown_cell {X Y : World} {row : Option Nat} (k : X.grownBy Y row) {B o : Nat} {v : Value} (h : X.cell? ⟨B, o, none⟩ = some v) (hr : row ≠ some B) : Y.cell? ⟨B, o, none⟩ = some v := by
  have hB := k.block B (World.block_lt_of_cell? X ⟨B, o, none⟩ h) (fun e => hr e.symm)
  rw [← h]; unfold World.cell?; rw [hB]
end Hub
open Hub

set_option maxRecDepth 20000 in
set_option maxHeartbeats 16000000 in
theorem once_any (v : Value) (l : List Int) (w : World) (hv : IntsAt 0 w.heap.size w v l) (hbd : IntB l) (hlm : l.length ≤ maxLen) :
    Calls Try.prog 6 #[v] w fun e w' => e = .returned (.bool true) ∧ Below w.heap.size w w' := by
  obtain ⟨i0, hi, hz0, hz1, hz2⟩ := info_parts int_info
  have HV := Lib.hid hv
  have HB := Lib.hid hbd
  obtain ⟨a, cap, rfl, hcc⟩ := hv
  have HC := Lib.hid hcc
  clear hcc hbd
  have hlm' : l.length ≤ 9223372036854775807 := hlm
  clear hlm
  have HW := Lib.hid awake_any
  have HN := Lib.hid wNewW_any
  by_cases hl : l.length ≤ 200
  · go_enter Try.func6, Try.ntmps6
    go_wp2_with fail
    refine (HN.out _).mono ?_
    rintro e w1 ⟨rfl, rfl⟩
    go_wp2_with fail
    go_loopw [4, 5, 6] (fun tp sn i wr => ∃ (k : Nat) (t b : Int) (L : List Int), k ≤ l.length ∧ i = .int .i64 k ∧ tp = .int .i64 t ∧ OwnI wr (w.heap.size + 2) sn L ∧ HasW (w.heap.size + 1) w.heap.size w (.int .i64 t) (.int .u64 b) wr ∧
      chk t b = 0 ∧ 0 ≤ b ∧ b ≤ 18446744073709551615 ∧ (∀ m ∈ L, Rej t b m) ∧ L.length ≤ k) (fun _ _ i _ => l.length - (intOf i).toNat)
    case atStart =>
      refine ⟨0, -1, 0, [], by omega, rfl, rfl, OwnI.nil _ _, ⟨?_, ?_, ?_, ?_, ?_, ?_⟩, by decide, by decide, by decide, fun m hm => by simp at hm, by simp⟩
      · exact (World.cell?_alloc_at _ _ _ _ (by simp only [World.size_alloc])).trans rfl
      · exact (World.cell?_alloc_at _ _ _ _ (by simp only [World.size_alloc])).trans rfl
      · exact World.frozen?_alloc_at _ _ _ _ (by simp only [World.size_alloc])
      · exact World.frozen?_alloc_at _ _ _ _ (by simp only [World.size_alloc])
      · simp only [World.size_alloc]; omega
      · exact ((Below.refl _ _).alloc (Nat.le_refl _) _).alloc (by simp only [World.size_alloc]; omega) _
    case round =>
      obtain ⟨k, t, b, L, hk, rfl, rfl, hown, hw, hc, b0, b1, hrej, hLk⟩ := hrel
      have hbr : Below w.heap.size w wr := hw.2.2.2.2.2
      by_cases hlt : k < l.length
      · have hki : (k : Int) < (l.length : Int) := by omega
        obtain ⟨bb, off, rfl, _, hbN, hcell⟩ := HC.out (by intro h; rw [h] at hlt; simp at hlt)
        have hck : wr.cell? ⟨bb, off + k, none⟩ = some (.int .i64 l[k]) := by
          rw [hbr.cell (p := ⟨bb, off + k, none⟩) hbN]; exact hcell k hlt
        obtain ⟨n0, n1⟩ := HB.out.get hlt
        clear hcell
        generalize l[k] = n at *
        obtain ⟨t1, b1', ok, hr⟩ : ∃ t1 b1' ok, acc t b n = (t1, b1', ok) := ⟨_, _, _, rfl⟩
        have A1 := Lib.hid (fun w => wAcc_any t b n w b0 b1)
        have hb' := acc_b (t := t) (b := b) (n := n) b0 b1
        have hch := chk_acc n b0 hc
        have hkeep := fun (m : Int) (h : Rej t b m) => rej_keeps n h
        have hmax := acc_max (t := t) (b := b) (n := n)
        have hsame := acc_same (t := t) (b := b) (n := n)
        have hin := acc_in (t := t) (b := b) (n := n)
        have hnew := acc_new (t := t) (b := b) (n := n) hc
        have hrn := rej_new (t := t) (b := b) (n := n)
        have hra := fun (h : Rej t b n) => rej_acc h
        rw [hr] at A1 hb' hch hkeep hmax hsame hin hnew hrn hra
        simp only at A1 hb' hch hkeep hmax hsame hin hnew hrn hra
        have c0 := hw.1
        have c1 := hw.2.1
        have zC := hw.2.2.2.2.1
        have HQ := Lib.hid hw
        have HO := Lib.hid hown
        have HR := Lib.hid hrej
        clear hw hrej hr
        obtain ⟨a4, cap4, rfl, hc4⟩ := hown.ints
        have HC4 := Lib.hid hc4
        clear hc4 hown
        go_wp2_with fail
        refine (A1.out _).mono ?_
        rintro e w3 ⟨rfl, hb3⟩
        have hw3 : HasW (w.heap.size + 1) w.heap.size w (.int .i64 t) (.int .u64 b) w3 := by
          obtain ⟨q0, q1, q2, q3, q4, q5⟩ := HQ.out
          exact ⟨(hb3.cell (p := ⟨w.heap.size + 1, 0, none⟩) q4).trans q0, (hb3.cell (p := ⟨w.heap.size + 1, 1, none⟩) q4).trans q1, (hb3.frozen (p := ⟨w.heap.size + 1, 0, none⟩) q4).trans q2, (hb3.frozen (p := ⟨w.heap.size + 1, 1, none⟩) q4).trans q3, Nat.lt_of_lt_of_le q4 hb3.size, bt q5 hb3⟩
        have hown3 : OwnI w3 (w.heap.size + 2) _ L := HO.out.below hb3 (Nat.le_refl _)
        have HZ := Lib.hid hb3.size
        have d0 := hw3.1
        have d1 := hw3.2.1
        have g0 := hw3.2.2.1
        have g1 := hw3.2.2.2.1
        have zD := hw3.2.2.2.2.1
        have HQ3 := Lib.hid hw3
        have HO3 := Lib.hid hown3
        clear hw3 hown3 hb3 c0 c1 zC hbr hck
        cases ok with
        | false =>
          have e1 := hsame rfl
          simp only [Prod.mk.injEq, and_true] at e1
          obtain ⟨rfl, rfl⟩ := e1
          by_cases hi0 : 0 ≤ n
          · by_cases hi1 : n ≤ 1099511627776
            · have hnt : ¬ t1 < n := fun h => by have := hnew hi0 hi1 h; simp at this
              clear hnew hmax hin hrn hra hsame hkeep hch
              go_wp2_with fail
              go_roundw
              case rel => exact ⟨k + 1, t1, b1', L, by omega, by go_num, rfl, (HO3.out.tch (((Tch.refl (w.heap.size + 1) w3).setCell 0 _).setCell 1 _) (by omega)).alloc _, (HQ3.out.set (by omega)).alloc (by simp [World.setCell]; omega) _, hc, b0, b1, HR.out, by omega⟩
              case measure => simp [intOf]; omega
            · have hi1' : 1099511627776 < n := by omega
              clear hnew hmax hin hrn hra hsame hkeep hch
              go_wp2_with fail
              go_roundw
              case rel => exact ⟨k + 1, t1, b1', L, by omega, by go_num, rfl, (HO3.out.tch (((Tch.refl (w.heap.size + 1) w3).setCell 0 _).setCell 1 _) (by omega)).alloc _, (HQ3.out.set (by omega)).alloc (by simp [World.setCell]; omega) _, hc, b0, b1, HR.out, by omega⟩
              case measure => simp [intOf]; omega
          · have hi0' : n < 0 := by omega
            clear hnew hmax hin hrn hra hsame hkeep hch
            go_wp2_with fail
            go_roundw
            case rel => exact ⟨k + 1, t1, b1', L, by omega, by go_num, rfl, (HO3.out.tch (((Tch.refl (w.heap.size + 1) w3).setCell 0 _).setCell 1 _) (by omega)).alloc _, (HQ3.out.set (by omega)).alloc (by simp [World.setCell]; omega) _, hc, b0, b1, HR.out, by omega⟩
            case measure => simp [intOf]; omega
        | true =>
          obtain ⟨hi0, hi1⟩ := hin rfl
          have hnot : ∀ m ∈ L, m ≠ n := fun m hm e => by
            have := hra (e ▸ HR.out m hm)
            simp at this
          have hmx := hmax rfl
          have hR2 : ∀ m ∈ L ++ [n], Rej t1 b1' m := fun m hm => by
            rcases List.mem_append.1 hm with h | h
            · exact hkeep m (HR.out m h)
            · obtain rfl := List.mem_singleton.1 h
              exact hrn rfl
          have HR2 := Lib.hid hR2
          have HNo := Lib.hid hnot
          have HM := Lib.hid hmx
          clear hnew hmax hin hrn hra hsame hkeep hR2 hnot hmx
          by_cases hnt : t < n
          · obtain rfl : n = t1 := by have := HM.out; omega
            go_wp2_with fail
            go_loopw [11] (fun i wx => ∃ j : Nat, j ≤ L.length ∧ i = .int .i64 j ∧ wx = w3.alloc (.cells #[.int .i64 n, .int .u64 b1'] 24)) (fun i _ => L.length - (intOf i).toNat)
            case atStart => exact ⟨0, Nat.zero_le _, rfl, rfl⟩
            case round =>
              obtain ⟨j, hj, rfl, rfl⟩ := hrel
              by_cases hjl : j < L.length
              · obtain ⟨a5, cap5, he5, hc5⟩ := HO3.out.ints
                simp only [Value.slice.injEq] at he5
                obtain ⟨rfl, _, rfl⟩ := he5
                obtain ⟨b5, o5, rfl, _, hb5, hcell5⟩ := hc5 (by intro h; rw [h] at hjl; simp at hjl)
                have hx5 := acell (.cells #[.int .i64 n, .int .u64 b1'] 24) (hcell5 j hjl) hb5
                have hne5 : (L[j] == n) = false := by simpa using HNo.out _ (List.getElem_mem hjl)
                have hji : (j : Int) < (L.length : Int) := by omega
                have hL200 : L.length ≤ 200 := by omega
                clear hc5 hcell5
                generalize L[j] = y at *
                go_wp2_with fail
                go_roundw
                case rel => exact ⟨j + 1, by omega, by go_num, trivial⟩
                case measure => simp [intOf]; omega
              · obtain rfl : j = L.length := by omega
                have hL200 : L.length ≤ 200 := by omega
                go_wp2_with (at_builtin; refine wpList_append_own _ rfl _ _ 39 rfl (w.heap.size + 2) 3 i0 (.int .i64 0) 1 8 Try.underlying39 hi hz0 hz1 hz2 rfl (by decide) _ _ _ rfl (OwnI.alloc (OwnI.alloc HO3.out _) _) ⟨w3.heap.size + 1, 0, none⟩ 1 1 [.int .i64 n] rfl rfl ?c1 ?c2 ?c3 ?c4 ?c5 ?_)
                case c1 =>
                  intro j u hj
                  match j, hj with
                  | 0, hj => simp at hj; subst hj; simp [Addr.add]
                case c2 => intro u hu; simp at hu; subst hu; rfl
                case c3 => unfold maxLen; omega
                case c4 => omega
                case c5 => simp; omega
                intro v' w4 hown' hgrow _
                have hne : (Value.slice a4 L.length cap4).ownBlock ≠ some (w.heap.size + 1) := by
                  intro e
                  have := (World.ownsRow.lt HO3.out _ e).1
                  omega
                have hneD : (Value.slice a4 L.length cap4).ownBlock ≠ some w3.heap.size := by
                  intro e
                  have := (World.ownsRow.lt HO3.out _ e).2
                  omega
                have hQ4 := ((HQ3.out.alloc (by omega) _).alloc (by rw [World.size_alloc]; omega) _).grown hgrow hne (fun g hg => by have := (World.ownsRow.lt HO3.out g hg).1; omega) (by rw [World.size_alloc, World.size_alloc]; omega)
                have x0 := grown_cell hgrow (B := w3.heap.size) (o := 0) (v := .int .i64 n) (acell _ ((World.cell?_alloc_at _ _ _ _ rfl).trans rfl) (by rw [World.size_alloc]; omega)) hneD
                have x1 := grown_cell hgrow (B := w3.heap.size) (o := 1) (v := .int .u64 b1') (acell _ ((World.cell?_alloc_at _ _ _ _ rfl).trans rfl) (by rw [World.size_alloc]; omega)) hneD
                have d0' := hQ4.1
                have d1' := hQ4.2.1
                have g0' := hQ4.2.2.1
                have g1' := hQ4.2.2.2.1
                have zD' := hQ4.2.2.2.2.1
                have HQ4 := Lib.hid hQ4
                have hown2 : OwnI w4 (w.heap.size + 2) v' (L ++ [n]) := by
                  unfold OwnI
                  rw [List.length_append, List.map_append]; exact hown'
                have HO4 := Lib.hid hown2
                clear hown2 hown' hQ4 hgrow hne hneD d0 d1 g0 g1
                go_wp2_with fail
                go_roundw
                case rel => exact ⟨k + 1, n, b1', L ++ [n], by omega, by go_num, rfl, HO4.out.tch (((Tch.refl (w.heap.size + 1) w4).setCell 0 _).setCell 1 _) (by omega), HQ4.out.set (by omega), hch, hb'.1, hb'.2, HR2.out, by simp; omega⟩
                case measure => simp [intOf]; omega
          · obtain rfl : t = t1 := by have := HM.out; omega
            go_wp2_with fail
            go_loopw [11] (fun i wx => ∃ j : Nat, j ≤ L.length ∧ i = .int .i64 j ∧ wx = w3.alloc (.cells #[.int .i64 t, .int .u64 b1'] 24)) (fun i _ => L.length - (intOf i).toNat)
            case atStart => exact ⟨0, Nat.zero_le _, rfl, rfl⟩
            case round =>
              obtain ⟨j, hj, rfl, rfl⟩ := hrel
              by_cases hjl : j < L.length
              · obtain ⟨a5, cap5, he5, hc5⟩ := HO3.out.ints
                simp only [Value.slice.injEq] at he5
                obtain ⟨rfl, _, rfl⟩ := he5
                obtain ⟨b5, o5, rfl, _, hb5, hcell5⟩ := hc5 (by intro h; rw [h] at hjl; simp at hjl)
                have hx5 := acell (.cells #[.int .i64 t, .int .u64 b1'] 24) (hcell5 j hjl) hb5
                have hne5 : (L[j] == n) = false := by simpa using HNo.out _ (List.getElem_mem hjl)
                have hji : (j : Int) < (L.length : Int) := by omega
                have hL200 : L.length ≤ 200 := by omega
                clear hc5 hcell5
                generalize L[j] = y at *
                go_wp2_with fail
                go_roundw
                case rel => exact ⟨j + 1, by omega, by go_num, trivial⟩
                case measure => simp [intOf]; omega
              · obtain rfl : j = L.length := by omega
                have hL200 : L.length ≤ 200 := by omega
                go_wp2_with (at_builtin; refine wpList_append_own _ rfl _ _ 39 rfl (w.heap.size + 2) 3 i0 (.int .i64 0) 1 8 Try.underlying39 hi hz0 hz1 hz2 rfl (by decide) _ _ _ rfl (OwnI.alloc (OwnI.alloc HO3.out _) _) ⟨w3.heap.size + 1, 0, none⟩ 1 1 [.int .i64 n] rfl rfl ?c1 ?c2 ?c3 ?c4 ?c5 ?_)
                case c1 =>
                  intro j u hj
                  match j, hj with
                  | 0, hj => simp at hj; subst hj; simp [Addr.add]
                case c2 => intro u hu; simp at hu; subst hu; rfl
                case c3 => unfold maxLen; omega
                case c4 => omega
                case c5 => simp; omega
                intro v' w4 hown' hgrow _
                have hne : (Value.slice a4 L.length cap4).ownBlock ≠ some (w.heap.size + 1) := by
                  intro e
                  have := (World.ownsRow.lt HO3.out _ e).1
                  omega
                have hneD : (Value.slice a4 L.length cap4).ownBlock ≠ some w3.heap.size := by
                  intro e
                  have := (World.ownsRow.lt HO3.out _ e).2
                  omega
                have hQ4 := ((HQ3.out.alloc (by omega) _).alloc (by rw [World.size_alloc]; omega) _).grown hgrow hne (fun g hg => by have := (World.ownsRow.lt HO3.out g hg).1; omega) (by rw [World.size_alloc, World.size_alloc]; omega)
                have x0 := grown_cell hgrow (B := w3.heap.size) (o := 0) (v := .int .i64 t) (acell _ ((World.cell?_alloc_at _ _ _ _ rfl).trans rfl) (by rw [World.size_alloc]; omega)) hneD
                have x1 := grown_cell hgrow (B := w3.heap.size) (o := 1) (v := .int .u64 b1') (acell _ ((World.cell?_alloc_at _ _ _ _ rfl).trans rfl) (by rw [World.size_alloc]; omega)) hneD
                have d0' := hQ4.1
                have d1' := hQ4.2.1
                have g0' := hQ4.2.2.1
                have g1' := hQ4.2.2.2.1
                have zD' := hQ4.2.2.2.2.1
                have HQ4 := Lib.hid hQ4
                have hown2 : OwnI w4 (w.heap.size + 2) v' (L ++ [n]) := by
                  unfold OwnI
                  rw [List.length_append, List.map_append]; exact hown'
                have HO4 := Lib.hid hown2
                clear hown2 hown' hQ4 hgrow hne hneD d0 d1 g0 g1
                go_wp2_with fail
                go_roundw
                case rel => exact ⟨k + 1, t, b1', L ++ [n], by omega, by go_num, rfl, HO4.out.tch (((Tch.refl (w.heap.size + 1) w4).setCell 0 _).setCell 1 _) (by omega), HQ4.out.set (by omega), hch, hb'.1, hb'.2, HR2.out, by simp; omega⟩
                case measure => simp [intOf]; omega
      · obtain rfl : k = l.length := by omega
        go_wp2_with fail
        refine (HW.out _).mono ?_
        rintro e w8 ⟨rfl, hb8⟩
        go_wp2_with fail
        go_ret
        exact ⟨rfl, bt hbr hb8⟩
  · have hli : (200 : Int) < (l.length : Int) := by omega
    go_enter Try.func6, Try.ntmps6
    go_wp2_with fail
    refine (HW.out _).mono ?_
    rintro e w8 ⟨rfl, hb8⟩
    go_wp2_with fail
    go_ret
    exact ⟨rfl, hb8⟩
end Go.Proofs.Ytegngjdeifbdiaa
