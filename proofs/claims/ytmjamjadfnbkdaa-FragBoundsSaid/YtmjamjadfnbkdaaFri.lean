/-
  Fragments: the reference's walk of what copies an entry.
-/
import Derived.Test.YtmjamjadfnbkdaaFrh
open Go Go.RowKit Go.Proofs
namespace Go.Proofs.Ytmjamjadfnbkdaa
namespace Hub
theorem OwnT.lit0 (w : World) (base : Nat) (hb : base ≤ w.heap.size) : OwnT (w.alloc (.cells #[] 4)) base (.slice (some ⟨w.heap.size, 0, none⟩) 0 0) [] :=
  World.ownsRow_lit w #[] 0 hb (by unfold maxLen; omega) (by simp)
theorem OwnS.lit0 (w : World) (base : Nat) (hb : base ≤ w.heap.size) : OwnS (w.alloc (.cells #[] 9)) base (.slice (some ⟨w.heap.size, 0, none⟩) 0 0) [] :=
  World.ownsRow_lit w #[] 0 hb (by unfold maxLen; omega) (by simp)
theorem PBox.grown {k : Nat} {p : Pt} {x x' : World} {row : Option Nat} (h : PBox k p x) (t : x.grownBy x' row) (hn : row ≠ some k) : PBox k p x' := by
  unfold PBox; rw [t.block k h.lt (fun e => hn e.symm)]; exact h
end Hub
open Hub

set_option maxHeartbeats 2000000 in
theorem copy_any (p : Pt) (lo N n : Nat) (w : World) (hh : BoolsAt lo N w p.vh p.pk.hv) (hd : StrsAt lo N w p.vd p.pk.dt) (hN : N ≤ w.heap.size) (hn1 : 1 ≤ n) (hn2 : n ≤ 16) (hlh : p.pk.hv.length = n) (hld : p.pk.dt.length = n) :
    Calls Try.prog 42 #[ptv p] w fun e w' => ∃ vh vd, e = .returned (ptv ⟨p.pk, vh, vd⟩) ∧ OwnT w' w.heap.size vh p.pk.hv ∧ OwnS w' w.heap.size vd p.pk.dt ∧ Below w.heap.size w w' := by
  obtain ⟨i0, hi, hz0, hz1, hz2⟩ := info_parts bool_info
  obtain ⟨j0, hj, hy0, hy1, hy2⟩ := info_parts str_info
  obtain ⟨bh, oh, ch, hvh, hbh, hsh⟩ := hh.src (by intro e; rw [e] at hlh; simp at hlh; omega)
  obtain ⟨bd, od, cd, hvd, hbd, hsd⟩ := hd.src (by intro e; rw [e] at hld; simp at hld; omega)
  rw [hlh] at hvh
  rw [hld] at hvd
  have hlb : (p.pk.hv.map Value.bool).length = n := by rw [List.length_map, hlh]
  have hls : (p.pk.dt.map Value.string).length = n := by rw [List.length_map, hld]
  have Hsh := Lib.hid (fun w' (k : Below w.heap.size w w') j u (hj : (p.pk.hv.map Value.bool)[j]? = some u) => (show w'.cell? ((⟨bh, oh, none⟩ : Addr).add j) = some u by
    have e := hsh j u hj
    rw [add_off'] at e ⊢
    rw [k.cell (p := ⟨bh, oh + j, none⟩) (by show bh < _; omega)]; exact e))
  have Hsd := Lib.hid (fun w' (k : Below w.heap.size w w') j u (hj : (p.pk.dt.map Value.string)[j]? = some u) => (show w'.cell? ((⟨bd, od, none⟩ : Addr).add j) = some u by
    have e := hsd j u hj
    rw [add_off'] at e ⊢
    rw [k.cell (p := ⟨bd, od + j, none⟩) (by show bd < _; omega)]; exact e))
  have HE1 := Lib.hid hlh
  have HE2 := Lib.hid hld
  have Hlb := Lib.hid hlb
  have Hls := Lib.hid hls
  obtain ⟨p, vh, vd⟩ := p
  dsimp only at *
  subst hvh hvd
  unfold ptv
  dsimp only
  obtain ⟨W0, hW0⟩ : ∃ W, W = w.alloc (.cells #[.int .i64 p.src, .int .i64 p.id, .int .i64 p.cnt, .int .i64 p.since, .slice (some ⟨bh, oh, none⟩) n ch, .slice (some ⟨bd, od, none⟩) n cd] 44) := ⟨_, rfl⟩
  obtain ⟨W1, hW1⟩ : ∃ W, W = W0.alloc (.cells #[.int .i64 0, .int .i64 0, .int .i64 0, .int .i64 0, .slice none 0 0, .slice none 0 0] 44) := ⟨_, rfl⟩
  have e0 : W0.heap.size = w.heap.size + 1 := by rw [hW0]; exact World.size_alloc ..
  have e1 : W1.heap.size = w.heap.size + 1 + 1 := by rw [hW1, ← e0]; exact World.size_alloc ..
  have t0 : Below w.heap.size w W0 := by rw [hW0]; exact below_box _ _
  have t1 : Below W0.heap.size W0 W1 := by rw [hW1]; exact below_box _ _
  have hP0 : PBox w.heap.size ⟨p, .slice (some ⟨bh, oh, none⟩) n ch, .slice (some ⟨bd, od, none⟩) n cd⟩ W0 := by rw [hW0]; exact PBox.new w ⟨p, .slice (some ⟨bh, oh, none⟩) n ch, .slice (some ⟨bd, od, none⟩) n cd⟩
  have hP := hP0.below t1 hP0.lt
  have hQ : PBox (w.heap.size + 1) noPt W1 := by rw [hW1, ← e0]; exact PBox.new W0 noPt
  have k1 : Below w.heap.size w W1 := bt t0 t1
  have E1 := Lib.hid e1
  have HW := Lib.hid (show W1 = (w.alloc (.cells #[.int .i64 p.src, .int .i64 p.id, .int .i64 p.cnt, .int .i64 p.since, .slice (some ⟨bh, oh, none⟩) n ch, .slice (some ⟨bd, od, none⟩) n cd] 44)).alloc (.cells #[.int .i64 0, .int .i64 0, .int .i64 0, .int .i64 0, .slice none 0 0, .slice none 0 0] 44) by rw [hW1, hW0])
  have HL := Lib.hid (show OwnT (W1.alloc (.cells #[] 4)) W1.heap.size (.slice (some ⟨w.heap.size + 1 + 1, 0, none⟩) 0 0) [] from by rw [← e1]; exact OwnT.lit0 W1 _ (Nat.le_refl _))
  have kA := below_box W1 (.cells #[] 4)
  have hPA := hP.below kA hP.lt
  have hQA := hQ.below kA hQ.lt
  have HKA := Lib.hid (bt k1 kA)
  have HPA := Lib.hid hPA
  have HQA := Lib.hid hQA
  have hEA : (W1.alloc (.cells #[] 4)).heap.size = w.heap.size + 1 + 1 + 1 := by rw [World.size_alloc, e1]
  have HEA := Lib.hid hEA
  have HW1 := Lib.hid (show w.heap.size ≤ W1.heap.size by omega)
  clear hh hd hlh hld hsh hsd hlb hls hW0 hW1 t0 t1 hP0 e0 e1 hP hQ k1 kA hPA hQA hEA
  go_enter Try.func42, Try.ntmps42
  go_wp2_with (at_builtin; rw [← HW.out]; refine wpList_append_own _ rfl _ _ 38 rfl W1.heap.size 4 i0 (.bool false) 1 1 Try.underlying38 hi hz0 hz1 hz2 rfl (by decide) _ _ _ rfl HL.out ⟨bh, oh, none⟩ n ch (p.hv.map Value.bool) rfl (by rw [Hlb.out, Nat.mul_one]) (Hsh.out _ HKA.out) (one_bools p.hv) ?c3 ?c4 ?c5 ?_)
  try case c3 => rw [List.length_nil]; unfold maxLen; omega
  try case c4 => rw [List.length_nil]; omega
  try case c5 => simp
  intro v1 w4 hown1 hgrow1 _
  have hT1 : OwnT w4 W1.heap.size v1 p.hv := by unfold OwnT; rw [HE1.out]; simpa using hown1
  have hlit : ∀ m, w.heap.size + 1 + 1 ≠ m → (some (w.heap.size + 1 + 1) : Option Nat) ≠ some m := fun m h e => h (Option.some.inj e)
  have hP4 := HPA.out.grown hgrow1 (hlit _ (by omega))
  have hQ4 := HQA.out.grown hgrow1 (hlit _ (by omega))
  have k4 := HKA.out.grown hgrow1 (by rw [HEA.out]; omega) (fun g hg => by have e : w.heap.size + 1 + 1 = g := Option.some.inj hg; omega)
  obtain ⟨a1, c1, rfl, hk1, ha1⟩ := hT1.shape
  rw [HE1.out] at ha1 hk1
  obtain ⟨g1, rfl⟩ := ha1 (by omega)
  rw [HE1.out] at hT1
  have hg1 : W1.heap.size ≤ g1 ∧ g1 < w4.heap.size := World.ownsRow.lt hT1 g1 rfl
  have T5 : Tch w.heap.size w4 (w4.setCell ⟨w.heap.size, 4, none⟩ (.slice (some ⟨g1, 0, none⟩) n c1)) := (Tch.refl _ _).setCell 4 _
  have hP5 := hP4.set4 (.slice (some ⟨g1, 0, none⟩) n c1)
  dsimp only at hP5
  have hQ5 := hQ4.tch T5 (by omega)
  have hT5 : OwnT (w4.setCell ⟨w.heap.size, 4, none⟩ (.slice (some ⟨g1, 0, none⟩) n c1)) W1.heap.size (.slice (some ⟨g1, 0, none⟩) n c1) p.hv := hT1.tch T5 (by have := E1.out; omega)
  have k5 := tch_new k4 T5 (Nat.le_refl _) (Nat.le_refl _)
  obtain ⟨-, q0, q1, q2, q3, q4, q5⟩ := hP4.six ⟨⟨_, _, _, rfl⟩, _, _, _, rfl⟩
  have f4 := hP4.f 4
  have l4 := hP4.lt
  have l5 := hQ4.lt
  dsimp only [Nat.zero_add] at q0 q1 q2 q3 q4 q5
  have hz5 : (w4.setCell ⟨w.heap.size, 4, none⟩ (.slice (some ⟨g1, 0, none⟩) n c1)).heap.size = w4.heap.size := by simp
  obtain ⟨x5, hx5⟩ : ∃ x, x = w4.setCell ⟨w.heap.size, 4, none⟩ (.slice (some ⟨g1, 0, none⟩) n c1) := ⟨_, rfl⟩
  rw [← hx5] at hP5 hQ5 hT5 k5 hz5
  have HX5 := Lib.hid hx5
  have HL5 := Lib.hid (show OwnS (x5.alloc (.cells #[] 9)) x5.heap.size (.slice (some ⟨w4.heap.size, 0, none⟩) 0 0) [] from by rw [← hz5]; exact OwnS.lit0 x5 _ (Nat.le_refl _))
  have kB := below_box x5 (.cells #[] 9)
  have HPB := Lib.hid (hP5.below kB hP5.lt)
  have HQB := Lib.hid (hQ5.below kB hQ5.lt)
  have HTB := Lib.hid (OwnT.alloc hT5 (.cells #[] 9))
  have HKB := Lib.hid (bt k5 kB)
  have Hz5 := Lib.hid hz5
  have Hg1 := Lib.hid hg1
  have HK5 := Lib.hid k5
  obtain ⟨-, r0, r1, r2, r3, r4, r5⟩ := HPB.out.six ⟨⟨_, _, _, rfl⟩, _, _, _, rfl⟩
  dsimp only [Nat.zero_add] at r0 r1 r2 r3 r4 r5
  clear hown1 hgrow1 hT1 hlit hP4 hQ4 k4 T5 hP5 hQ5 hT5 k5 hz5 hx5 kB hg1 hk1
  rw [HE1.out]
  go_wp2_with (at_builtin; rw [← HX5.out]; refine wpList_append_own _ rfl _ _ 23 rfl x5.heap.size 9 j0 (.string ByteArray.empty) 1 16 Try.underlying23 hj hy0 hy1 hy2 rfl (by decide) _ _ _ rfl HL5.out ⟨bd, od, none⟩ n cd (p.dt.map Value.string) rfl (by rw [Hls.out, Nat.mul_one]) (Hsd.out _ HKB.out) (one_strs p.dt) ?d3 ?d4 ?d5 ?_)
  try case d3 => rw [List.length_nil]; unfold maxLen; omega
  try case d4 => rw [List.length_nil]; omega
  try case d5 => simp
  intro v2 w6 hown2 hgrow2 _
  have hlt5 : ∀ m, m < w4.heap.size → (some w4.heap.size : Option Nat) ≠ some m := fun m h e => by have e2 : w4.heap.size = m := Option.some.inj e; omega
  have hT2 : OwnS w6 x5.heap.size v2 p.dt := by unfold OwnS; rw [HE2.out]; simpa using hown2
  have hP6 := HPB.out.grown hgrow2 (hlt5 _ l4)
  have hQ6 := HQB.out.grown hgrow2 (hlt5 _ l5)
  have k6 := HKB.out.grown hgrow2 (by have := HK5.out.size; rw [World.size_alloc]; omega) (fun g hg => by have e : w4.heap.size = g := Option.some.inj hg; omega)
  have hT1' : OwnT w6 W1.heap.size (.slice (some ⟨g1, 0, none⟩) n c1) p.hv := World.ownsRow.kept HTB.out hgrow2 (.inr (fun e => hlt5 _ Hg1.out.2 e.symm))
  obtain ⟨a2, c2, rfl, hk2, ha2⟩ := hT2.shape
  rw [HE2.out] at ha2 hk2
  obtain ⟨g2, rfl⟩ := ha2 (by omega)
  rw [HE2.out] at hT2
  have hg2 : x5.heap.size ≤ g2 ∧ g2 < w6.heap.size := World.ownsRow.lt hT2 g2 rfl
  rw [Hz5.out] at hg2
  obtain ⟨-, r0, r1, r2, r3, r4, r5⟩ := hP6.six ⟨⟨_, _, _, rfl⟩, _, _, _, rfl⟩
  obtain ⟨-, s0, s1, s2, s3, s4, s5⟩ := hQ6.six noPt_shp
  have f5 := hP6.f 5
  have h0 := hQ6.f 0
  have h1 := hQ6.f 1
  have h2 := hQ6.f 2
  have h3 := hQ6.f 3
  have h4 := hQ6.f 4
  have h5 := hQ6.f 5
  dsimp only [Nat.zero_add] at r0 r1 r2 r3 r4 r5 s0 s1 s2 s3 s4 s5
  have HP6 := Lib.hid hP6
  have HQ6 := Lib.hid hQ6
  have HT1 := Lib.hid hT1'
  have HT2 := Lib.hid hT2
  have HK6 := Lib.hid k6
  have Hg2 := Lib.hid hg2
  clear hown2 hgrow2 hT2 hP6 hQ6 k6 hT1' hg2 hk2 hlt5
  rw [HE2.out]
  go_wp2_with fail
  have T7 : Tch w.heap.size w6 (w6.setCell ⟨w.heap.size, 5, none⟩ (.slice (some ⟨g2, 0, none⟩) n c2)) := (Tch.refl _ _).setCell 5 _
  have hQ8 := (HQ6.out.tch T7 (by omega)).fill ⟨p, .slice (some ⟨g1, 0, none⟩) n c1, .slice (some ⟨g2, 0, none⟩) n c2⟩
  have T8 := tch_fill (w6.setCell ⟨w.heap.size, 5, none⟩ (.slice (some ⟨g2, 0, none⟩) n c2)) (w.heap.size + 1) (.int .i64 p.src) (.int .i64 p.id) (.int .i64 p.cnt) (.int .i64 p.since) (.slice (some ⟨g1, 0, none⟩) n c1) (.slice (some ⟨g2, 0, none⟩) n c2)
  obtain ⟨-, z0, z1, z2, z3, z4, z5⟩ := hQ8.six ⟨⟨_, _, _, rfl⟩, _, _, _, rfl⟩
  dsimp only [Nat.zero_add] at z0 z1 z2 z3 z4 z5
  have m1 := Hg1.out.1
  have m2 := Hg2.out.1
  have m3 := E1.out
  have hT := ((HT1.out.tch T7 (by omega)).tch T8 (by omega)).base HW1.out
  have hS := ((HT2.out.tch T7 (by have := Hz5.out; omega)).tch T8 (by have := Hz5.out; omega)).base (b := w.heap.size) (by have := Hz5.out; omega)
  have kz := tch_new (tch_new HK6.out T7 (Nat.le_refl _) (Nat.le_refl _)) T8 (by omega) (Nat.le_refl _)
  refine bodyPost_ret (v := .agg #[.int .i64 p.src, .int .i64 p.id, .int .i64 p.cnt, .int .i64 p.since, .slice (some ⟨g1, 0, none⟩) n c1, .slice (some ⟨g2, 0, none⟩) n c2]) ?_ rfl ⟨_, _, rfl, hT, hS, kz⟩
  simp [results, Try.results42, go_sem, z0, z1, z2, z3, z4, z5]
end Go.Proofs.Ytmjamjadfnbkdaa
