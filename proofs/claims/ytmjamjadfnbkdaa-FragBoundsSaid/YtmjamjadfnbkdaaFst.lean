/-
  Fragments: the examples of the chapter hold: the walk.
-/
import Derived.Test.YtmjamjadfnbkdaaFsk
import Derived.Test.YtmjamjadfnbkdaaFsr
open Go Go.RowKit Go.Proofs
namespace Go.Proofs.Ytmjamjadfnbkdaa
namespace Hub
theorem exZ_nums : strOfNums (List.replicate 64 0) = exZ := by kernel_rfl
theorem exZ_size : exZ.size = 64 := by kernel_rfl
theorem make64 (W : World) : (Instr.makeSlice 46 (.int .i64 64) (.int .i64 64)).run Try.prog W = .ok (.slice (some ⟨W.heap.size, 0, none⟩) 64 64) (W.alloc (.cells (Array.replicate 64 (Value.int .u8 0)) 5)) := by
  obtain ⟨i0, hi, hz0, hz1, hz2⟩ := info_parts u8_info
  have h := run_make_row (P := Try.prog) 46 5 i0 (.int .u8 0) Try.underlying46 hi hz0 hz1 rfl .i64 .i64 64 (by rw [hz2]; omega) (by omega) W
  rw [made_one, List.toArray_replicate] at h
  exact h
theorem conv64 (W : World) (n : Nat) (hn : n = W.heap.size) : (convert 46 9 (.slice (some ⟨n, 0, none⟩) 64 64)).run Try.prog (W.alloc (.cells (Array.replicate 64 (Value.int .u8 0)) 5)) = .ok (.string exZ) (W.alloc (.cells (Array.replicate 64 (Value.int .u8 0)) 5)) := by
  subst hn
  rw [← exZ_nums]
  refine conv_cells 46 9 5 Try.underlying46 Try.underlying5 Try.underlying9 _ _ 0 64 (List.replicate 64 0) fun i hi => ?_
  rw [List.length_replicate] at hi
  rw [Nat.zero_add, Lib.cell_of_heap (heap_alloc_new W _)]
  rw [show (List.replicate 64 (0 : Int)).getD i 0 = 0 from by rw [List.getD_eq_getElem?_getD, List.getElem?_replicate]; split <;> rfl]
  show (Array.replicate 64 (Value.int .u8 0))[i]? = _
  rw [Array.getElem?_replicate, if_pos hi]
theorem strs2 {lo N : Nat} {w : World} {v : Value} {x y : ByteArray} (h : StrsAt lo N w v [x, y]) : ∃ b off cap, v = .slice (some ⟨b, off, none⟩) 2 cap ∧ b < N ∧ w.cell? ⟨b, off, none⟩ = some (.string x) ∧ w.cell? ⟨b, off + 1, none⟩ = some (.string y) := by
  obtain ⟨a, cap, rfl, _, hc⟩ := h
  obtain ⟨b, off, rfl, _, hb, hcell⟩ := hc (by simp)
  exact ⟨b, off, cap, rfl, hb, by have := hcell 0 (by simp); rwa [Nat.add_zero] at this, hcell 1 (by simp)⟩
theorem strsLit2 (w : World) (x y : ByteArray) : StrsAt 0 (w.alloc (.cells #[.string x, .string y] 9)).heap.size (w.alloc (.cells #[.string x, .string y] 9)) (.slice (some ⟨w.heap.size, 0, none⟩) 2 2) [x, y] := by
  refine ⟨_, _, rfl, Nat.le_refl _, fun _ => ⟨w.heap.size, 0, rfl, Nat.zero_le _, by simp, fun i hi => ?_⟩⟩
  rw [Lib.cell_of_heap (heap_alloc_new w _)]
  match i, hi with
  | 0, _ => rfl
  | 1, _ => rfl
theorem strsLit1 (w : World) (x : ByteArray) : StrsAt 0 (w.alloc (.cells #[.string x] 9)).heap.size (w.alloc (.cells #[.string x] 9)) (.slice (some ⟨w.heap.size, 0, none⟩) 1 1) [x] := by
  refine ⟨_, _, rfl, Nat.le_refl _, fun _ => ⟨w.heap.size, 0, rfl, Nat.zero_le _, by simp, fun i hi => ?_⟩⟩
  rw [Lib.cell_of_heap (heap_alloc_new w _)]
  match i, hi with
  | 0, _ => rfl
theorem piecesT (v v' : Value) (l : List ByteArray) (lo N lo' N' : Nat) (w : World) (hv : StrsAt lo N w v l) (hv' : StrsAt lo' N' w v' l) (hl : l.length ≤ 1099511627776) :
    Calls Try.prog 14 #[v, v'] w fun e w' => e = .returned (.bool true) ∧ Below w.heap.size w w' := by
  have h := pieces_any v v' l l lo N lo' N' w hv hv' hl
  rw [decide_eq_true rfl] at h
  exact h.mono fun e w' ⟨he, n, hn⟩ => ⟨he, hn ▸ Below.drewN' (Below.refl _ _) n⟩
end Hub
open Hub

set_option maxRecDepth 20000 in
set_option maxHeartbeats 4000000 in
theorem awake_any (w : World) : Calls Try.prog 11 #[] w fun e w' => e = .returned (.bool true) ∧ Below w.heap.size w w' := by
  have hmk := fun W => make64 W
  have hcv := fun W n h => conv64 W n h
  have hzs := exZ_size
  have HSp := Lib.hid (fun W => split_any exS 7 W (by rw [exS_size]; omega))
  rw [ex_split] at HSp
  have HSp0 := Lib.hid (fun W => split_any ⟨#[]⟩ 7 W (Nat.zero_le _))
  rw [ex_split0] at HSp0
  have HC0 := Lib.hid (fun W => chk_any (exP.extract 0 66) W (by rw [ByteArray.size_extract, exP_size]; omega))
  rw [ex_chk0] at HC0
  have HC1 := Lib.hid (fun W => chk_any ⟨#[7, 1, 2]⟩ W (by show (3 : Nat) ≤ _; omega))
  rw [ex_chk1] at HC1
  have HC2 := Lib.hid (fun W => chk_any ⟨#[7, 0]⟩ W (by show (2 : Nat) ≤ _; omega))
  rw [ex_chk2] at HC2
  have HA1 := Lib.hid (fun W => add_any (.slice none 0 0) [] 0 0 3 5 ⟨#[7, 1, 2, 98]⟩ W (PtsAt.nil _ _ _) (Nat.zero_le _) (Nat.zero_le _) (by show (4 : Nat) ≤ _; omega))
  rw [List.map_nil, ex_add1] at HA1
  have HA2 := Lib.hid (fun v m N W (hm : m.map Pt.pk = [exQ]) (h : PtsAt 0 N W v m) (hN : N ≤ W.heap.size) => (show Calls Try.prog 18 #[v, .int .i64 3, .int .i64 9, .string exP] W fun e w' => Added W w' e ([], exS, true) 0 from by
    have := add_any v m 0 N 3 9 exP W h hN (by have := congrArg List.length hm; rw [List.length_map] at this; simp at this; omega) (by rw [exP_size]; omega)
    rw [hm, ex_add2] at this; exact this))
  have HSe := Lib.hid (show exZ ++ (⟨#[98]⟩ : ByteArray) = exS from rfl)
  have HPe := Lib.hid (show (⟨#[7, 0, 2]⟩ : ByteArray) ++ exS.extract 0 64 = exP from rfl)
  have hss := exS_size
  have hps := exP_size
  go_enter Try.func11, Try.ntmps11
  go_wp2_with fail
  rw [HSe.out]
  refine (HSp.out _).mono ?_
  rintro e w1 ⟨u1, rfl, hu1, hb1⟩
  obtain ⟨b1, o1, k1, rfl, hbb1, c1, c2⟩ := strs2 hu1
  have hw1 : Below w.heap.size w w1 := bt (below_box w _) hb1
  have HU1 := Lib.hid hu1
  have Hw1 := Lib.hid hw1
  clear hu1 hb1 hw1
  go_wp2_with fail
  refine (HSp0.out _).mono ?_
  rintro e w2 ⟨u2, rfl, hu2, hb2⟩
  have hU1 := HU1.out.below hb2 (Nat.le_refl _)
  have hw2 := bt Hw1.out hb2
  have HP1 := Lib.hid (fun W (k : Below w2.heap.size w2 W) => hU1.below k hb2.size)
  have HP2 := Lib.hid (fun W (k : Below w2.heap.size w2 W) => hu2.below k (Nat.le_refl _))
  have HC2x := Lib.hid (fun W (k : Below w2.heap.size w2 W) => (⟨(k.cell (p := ⟨b1, o1, none⟩) (Nat.lt_of_lt_of_le hbb1 hb2.size)).trans ((hb2.cell (p := ⟨b1, o1, none⟩) hbb1).trans c1), (k.cell (p := ⟨b1, o1 + 1, none⟩) (Nat.lt_of_lt_of_le hbb1 hb2.size)).trans ((hb2.cell (p := ⟨b1, o1 + 1, none⟩) hbb1).trans c2)⟩ : _ ∧ _))
  have Hw2 := Lib.hid hw2
  clear hu2 hb2 hU1 hw2 c1 c2 HU1 Hw1 hbb1
  go_wp2_with fail
  rw [HPe.out]
  refine (piecesT _ _ _ _ _ _ _ _ (HP1.out _ (below_box w2 _)) (strsLit2 w2 _ _) (by simp)).mono ?_
  rintro e w3 ⟨rfl, hb3⟩
  have hw3 := bt (below_box w2 _) hb3
  go_wp2_with fail
  refine (piecesT _ _ _ _ _ _ _ _ (HP2.out _ (bt hw3 (below_box w3 _))) (strsLit1 w3 _) (by simp)).mono ?_
  rintro e w4 ⟨rfl, hb4⟩
  have hw4 := bt (bt hw3 (below_box w3 _)) hb4
  obtain ⟨c1, c2⟩ := HC2x.out _ hw4
  go_wp2_with fail
  refine (HC0.out _).mono ?_
  rintro e w5 ⟨rfl, hb5⟩
  go_wp2_with fail
  refine (HC1.out _).mono ?_
  rintro e w6 ⟨rfl, hb6⟩
  go_wp2_with fail
  refine (HC2.out _).mono ?_
  rintro e w7 ⟨rfl, hb7⟩
  have hw7 := bt (bt (bt hw4 hb5) hb6) hb7
  obtain ⟨d1, d2⟩ := HC2x.out _ hw7
  clear c1 c2 hb5 hb6 hb7 hw4 hw3 hb3 hb4
  go_wp2_with fail
  refine (HA1.out _).mono ?_
  rintro e w8 ⟨u8, m8, rfl, hm8, hp8, hb8⟩
  have hl8 : m8.length = 1 := by have := congrArg List.length hm8; rw [List.length_map] at this; exact this
  have hpk8 : (m8[0]'(by omega)).pk = exQ := by
    have : (m8.map Pt.pk)[0]'(by rw [List.length_map]; omega) = exQ := by simp only [hm8]; rfl
    rw [List.getElem_map] at this; exact this
  have HP8 := Lib.hid hp8
  have hw8 := bt hw7 hb8
  obtain ⟨d1, d2⟩ := HC2x.out _ hw8
  obtain ⟨⟨a8, k8, rfl, -⟩, -⟩ := id hp8
  obtain ⟨g8, o8, rfl, _, hg8, hs8⟩ := hp8.1.cells (show 0 < m8.length by omega)
  obtain ⟨-, s0, s1, s2, s3, s4, s5⟩ := hs8
  rw [hpk8] at s3
  have s3' : w8.cell? ⟨g8, o8 + 3, none⟩ = some (.int .i64 5) := by rw [Nat.zero_mul, Nat.add_zero] at s3; exact s3
  have HA2x := Lib.hid (fun W (k : Below w8.heap.size w8 W) => HA2.out _ m8 w8.heap.size W hm8 ((HP8.out.wide (Nat.zero_le _) (Nat.le_refl _)).below k (Nat.le_refl _)) k.size)
  have Hw8 := Lib.hid (bt Hw2.out hw8)
  rw [hl8] at HA2x ⊢
  clear hw7 hb8 hp8 hm8 hpk8 hw8 hl8 s0 s1 s2 s3 s4 s5 HA1 HA2 HP8
  go_wp2_with fail
  refine (HA2x.out _ (Below.refl _ _)).mono ?_
  rintro e w9 ⟨u9, m9, rfl, hm9, hp9, hb9⟩
  obtain rfl : m9 = [] := List.map_eq_nil_iff.1 hm9
  obtain ⟨⟨a9, k9, rfl, -⟩, -⟩ := hp9
  have hse : (exS.toList == exS.toList) = true := beq_self_eq_true _
  go_wp2_with fail
  go_ret
  exact ⟨rfl, bt Hw8.out hb9⟩
end Go.Proofs.Ytmjamjadfnbkdaa
