/-
  The reference's walks of what copies the lists of stored blocks and stores one.
-/
import Derived.Test.YtbbfbeacgnimpaaFirP
import Derived.Test.YtbbfbeacgnimpaaFirI
open Go Go.RowKit Go.Proofs
namespace Go.Proofs.Ytbbfbeacgnimpaa
namespace Hub
theorem RowAt.ownT {x : World} {g : Nat} {lb : List Bool} {n base : Nat} (h : RowAt x g 4 (lb.map Value.bool)) (hn : lb.length = n) (hb : base ≤ g) (hm : n ≤ maxLen) : OwnT x base (.slice (some ⟨g, 0, none⟩) n n) lb :=
  ⟨by simp, .inr ⟨g, n, (lb.map Value.bool).toArray, by rw [hn], hb, h, by omega, hm, by simp [hn], List.take_of_length_le (by simp [hn])⟩⟩
theorem RowAt.ownS {x : World} {g : Nat} {lb : List ByteArray} {n base : Nat} (h : RowAt x g 9 (lb.map Value.string)) (hn : lb.length = n) (hb : base ≤ g) (hm : n ≤ maxLen) : OwnS x base (.slice (some ⟨g, 0, none⟩) n n) lb :=
  ⟨by simp, .inr ⟨g, n, (lb.map Value.string).toArray, by rw [hn], hb, h, by omega, hm, by simp [hn], List.take_of_length_le (by simp [hn])⟩⟩
theorem OwnT.lit0 (w : World) (base : Nat) (hb : base ≤ w.heap.size) : OwnT (w.alloc (.cells #[] 4)) base (.slice (some ⟨w.heap.size, 0, none⟩) 0 0) [] :=
  World.ownsRow_lit w #[] 0 hb (by unfold maxLen; omega) (by simp)
theorem OwnS.lit0 (w : World) (base : Nat) (hb : base ≤ w.heap.size) : OwnS (w.alloc (.cells #[] 9)) base (.slice (some ⟨w.heap.size, 0, none⟩) 0 0) [] :=
  World.ownsRow_lit w #[] 0 hb (by unfold maxLen; omega) (by simp)
end Hub
open Hub

set_option maxHeartbeats 1000000 in
theorem lists_any (f : Fw) (v vh vb : Value) (lo N : Nat) (h : List Bool) (b : List ByteArray) (w : World) (hv : IntsAt lo N w v f.sums) (hh : BoolsAt lo N w vh h) (hb : StrsAt lo N w vb b) (hN : N ≤ w.heap.size)
    (hn : 1 ≤ f.sums.length) (hl : f.sums.length ≤ 1099511627776) :
    Calls Try.prog 52 #[fwv f v, vh, vb] w fun e w' => ∃ g1 k1 g2 k2, e = .returned (.tuple #[.slice (some ⟨g1, 0, none⟩) f.sums.length k1, .slice (some ⟨g2, 0, none⟩) f.sums.length k2]) ∧
      OwnT w' w.heap.size (.slice (some ⟨g1, 0, none⟩) f.sums.length k1) (haveL f.sums.length h b) ∧ OwnS w' w.heap.size (.slice (some ⟨g2, 0, none⟩) f.sums.length k2) (dataL f.sums.length h b) ∧ g1 ≠ g2 ∧ Below w.heap.size w w' := by
  obtain ⟨i0, hi, hz0, hz1, hz2⟩ := info_parts bool_info
  obtain ⟨j0, hj, hy0, hy1, hy2⟩ := info_parts str_info
  obtain ⟨a, cap, rfl, -⟩ := hv
  obtain ⟨n, hnn⟩ : ∃ n, f.sums.length = n := ⟨_, rfl⟩
  rw [hnn] at hn hl ⊢
  have hml : n ≤ maxLen := by unfold maxLen; omega
  have mB := fun W => run_make_row (P := Try.prog) 39 4 i0 (.bool false) Try.underlying39 hi hz0 hz1 rfl .i64 .i64 n (by rw [hz2]; omega) (by omega) W
  have mS := fun W => run_make_row (P := Try.prog) 34 9 j0 (.string ByteArray.empty) Try.underlying34 hj hy0 hy1 rfl .i64 .i64 n (by rw [hy2]; omega) (by omega) W
  rw [made_one] at mB mS
  have eB : (List.replicate n (Value.bool false)).toArray = Array.replicate n (Value.bool false) := by simp
  have eS : (List.replicate n (Value.string ByteArray.empty)).toArray = Array.replicate n (Value.string ByteArray.empty) := by simp
  have fB : (List.replicate n false).map Value.bool = List.replicate n (Value.bool false) := List.map_replicate
  have fS : (List.replicate n ByteArray.empty).map Value.string = List.replicate n (Value.string ByteArray.empty) := List.map_replicate
  have HmB := Lib.hid (fun W => RowAt.fresh W (List.replicate n (Value.bool false)) 4)
  have HmS := Lib.hid (fun W => RowAt.fresh W (List.replicate n (Value.string ByteArray.empty)) 9)
  rw [eB] at HmB
  rw [eS] at HmS
  have FB := Lib.hid fB
  have hFSx := Lib.hid fS
  clear eB eS fB fS
  have hF0 : Fb w.heap.size (.int .i64 f.ven) (.int .i64 f.ver) (.slice a n cap) (w.alloc (.cells #[.int .i64 f.ven, .int .i64 f.ver, .slice a n cap] 24)) := heap_alloc_new w _
  have hw := below_box w (.cells #[.int .i64 f.ven, .int .i64 f.ver, .slice a n cap] 24)
  have hx1 : w.heap.size < (w.alloc (.cells #[.int .i64 f.ven, .int .i64 f.ver, .slice a n cap] 24)).heap.size := by simp
  unfold fwv
  by_cases hE : h.length = n ∧ b.length = n
  · obtain ⟨hE1, hE2⟩ := hE
    have HH := Lib.hid (show haveL n h b = h by rw [haveL, if_pos ⟨hE1, hE2⟩])
    have HD := Lib.hid (show dataL n h b = b by rw [dataL, if_pos ⟨hE1, hE2⟩])
    have hh' := hh.below hw hN
    have hb' := hb.below hw hN
    obtain ⟨bh, oh, ch, rfl, hbh, hsh⟩ := hh'.src (by intro e; rw [e] at hE1; simp at hE1; omega)
    obtain ⟨bb, ob, cb, rfl, hbb, hsb⟩ := hb'.src (by intro e; rw [e] at hE2; simp at hE2; omega)
    rw [hE1, hE2]
    have hlh : (h.map Value.bool).length = n := by rw [List.length_map, hE1]
    have hlb : (b.map Value.string).length = n := by rw [List.length_map, hE2]
    have Hsh := Lib.hid (fun w' (k : Below w.heap.size (w.alloc (.cells #[.int .i64 f.ven, .int .i64 f.ver, .slice a n cap] 24)) w') j u (hj : (h.map Value.bool)[j]? = some u) => (show w'.cell? ((⟨bh, oh, none⟩ : Addr).add j) = some u by
      have e := hsh j u hj
      rw [add_off'] at e ⊢
      rw [k.cell (p := ⟨bh, oh + j, none⟩) (by show bh < _; omega)]; exact e))
    have Hsb := Lib.hid (fun w' (k : Below w.heap.size (w.alloc (.cells #[.int .i64 f.ven, .int .i64 f.ver, .slice a n cap] 24)) w') j u (hj : (b.map Value.string)[j]? = some u) => (show w'.cell? ((⟨bb, ob, none⟩ : Addr).add j) = some u by
      have e := hsb j u hj
      rw [add_off'] at e ⊢
      rw [k.cell (p := ⟨bb, ob + j, none⟩) (by show bb < _; omega)]; exact e))
    have HE1 := Lib.hid hE1
    have HE2 := Lib.hid hE2
    have Hlh := Lib.hid hlh
    have Hlb := Lib.hid hlb
    have Hw := Lib.hid hw
    have c2 := hF0.c2
    have hnm : (n : Int) = (n : Int) := rfl
    clear hh hb hh' hb' hsh hsb hE1 hE2 mB mS HmB HmS hlh hlb hw hF0
    go_enter Try.func52, Try.ntmps52
    generalize hX : w.alloc (.cells #[.int .i64 f.ven, .int .i64 f.ver, .slice a n cap] 24) = X at *
    have hkX : Below w.heap.size X (X.alloc (.cells #[] 4)) := (Below.refl _ _).alloc (Nat.le_of_lt hx1) _
    have HkX := Lib.hid hkX
    clear hkX
    go_wp2_with (at_builtin; refine wpList_append_own _ rfl _ _ 39 rfl X.heap.size 4 i0 (.bool false) 1 1 Try.underlying39 hi hz0 hz1 hz2 rfl (by decide) _ _ _ rfl (OwnT.lit0 X X.heap.size (Nat.le_refl _)) ⟨bh, oh, none⟩ n ch (h.map Value.bool) rfl (by rw [Hlh.out, Nat.mul_one]) (Hsh.out _ HkX.out) (one_bools h) ?c3 ?c4 ?c5 ?_)
    try case c3 => rw [List.length_nil]; omega
    try case c4 => first | omega | (rw [List.length_nil]; omega)
    try case c5 => simp
    intro v1 w4 hown1 hgrow1 _
    have hT1 : OwnT w4 X.heap.size v1 h := by unfold OwnT; rw [HE1.out]; simpa using hown1
    have hb4 : Below w.heap.size X w4 := HkX.out.grown hgrow1 (by simp; omega) (fun g hg => Nat.le_trans (Nat.le_of_lt hx1) (World.ownsRow.lt (OwnT.lit0 X X.heap.size (Nat.le_refl _)) g hg).1)
    obtain ⟨a1, k1, rfl, hk1, ha1⟩ := hT1.shape
    rw [HE1.out] at ha1 hk1
    obtain ⟨g1, rfl⟩ := ha1 (by omega)
    rw [HE1.out] at hT1
    have hg1 : X.heap.size ≤ g1 ∧ g1 < w4.heap.size := World.ownsRow.lt hT1 g1 rfl
    have hb44 : Below w.heap.size X (w4.alloc (.cells #[] 9)) := hb4.alloc (Nat.le_trans (Nat.le_of_lt hx1) hb4.size) _
    have Hb44 := Lib.hid hb44
    have HT1 := Lib.hid hT1
    clear hown1 hgrow1 hb44 hT1 hb4
    rw [HE1.out]
    go_wp2_with (at_builtin; refine wpList_append_own _ rfl _ _ 34 rfl w4.heap.size 9 j0 (.string ByteArray.empty) 1 16 Try.underlying34 hj hy0 hy1 hy2 rfl (by decide) _ _ _ rfl (OwnS.lit0 w4 w4.heap.size (Nat.le_refl _)) ⟨bb, ob, none⟩ n cb (b.map Value.string) rfl (by rw [Hlb.out, Nat.mul_one]) (Hsb.out _ Hb44.out) (one_strs b) ?d3 ?d4 ?d5 ?_)
    try case d3 => rw [List.length_nil]; omega
    try case d4 => rw [List.length_nil]; omega
    try case d5 => simp
    intro v2 w6 hown2 hgrow2 _
    have hT2 : OwnS w6 w4.heap.size v2 b := by unfold OwnS; rw [HE2.out]; simpa using hown2
    have hb6 : Below w.heap.size X w6 := Hb44.out.grown hgrow2 (by simp; omega) (fun g hg => by have := (World.ownsRow.lt (OwnS.lit0 w4 w4.heap.size (Nat.le_refl _)) g hg).1; omega)
    obtain ⟨a2, k2, rfl, hk2, ha2⟩ := hT2.shape
    rw [HE2.out] at ha2 hk2
    obtain ⟨g2, rfl⟩ := ha2 (by omega)
    rw [HE2.out] at hT2
    have hg2 : w4.heap.size ≤ g2 ∧ g2 < w6.heap.size := World.ownsRow.lt hT2 g2 rfl
    have hT1' : OwnT w6 X.heap.size (.slice (some ⟨g1, 0, none⟩) n k1) h := World.ownsRow.kept (OwnT.alloc HT1.out _) hgrow2 (.inr (by intro e; simp [Value.ownBlock] at e; omega))
    have HT1 := Lib.hid (hT1'.base (Nat.le_of_lt hx1))
    have HT2 := Lib.hid (hT2.base (b := w.heap.size) (by omega))
    have Hb6 := Lib.hid (Hw.out.trans (hb6.mono (by omega)))
    have hgg : g1 ≠ g2 := by omega
    clear hown2 hgrow2 hT1' hT2 hb6
    rw [HE2.out]
    go_wp2_with fail
    refine bodyPost_ret (v := .tuple #[.slice (some ⟨g1, 0, none⟩) n k1, .slice (some ⟨g2, 0, none⟩) n k2]) ?_ rfl ⟨g1, k1, g2, k2, rfl, by rw [HH.out]; exact HT1.out, by rw [HD.out]; exact HT2.out, hgg, Hb6.out⟩
    simp [results, Try.results52, go_sem]
  · have HH := Lib.hid (show haveL n h b = List.replicate n false by rw [haveL, if_neg hE])
    have HD := Lib.hid (show dataL n h b = List.replicate n ByteArray.empty by rw [dataL, if_neg hE])
    obtain ⟨ah, ch, rfl, -⟩ := hh
    obtain ⟨ab, cb, rfl, -⟩ := hb
    have hq : ((h.length : Int) != (n : Int)) = true ∨ (((h.length : Int) != (n : Int)) = false ∧ ((b.length : Int) != (n : Int)) = true) := by
      by_cases e : h.length = n
      · right
        refine ⟨by simp [e], ?_⟩
        simp only [bne_iff_ne]
        intro e2
        exact hE ⟨e, by omega⟩
      · left
        simp only [bne_iff_ne]
        omega
    clear hE
    have c2 := hF0.c2
    have Hw := Lib.hid hw
    clear hF0 hw
    generalize h.length = nh at *
    generalize b.length = nb at *
    rcases hq with hq1 | ⟨hq1, hq2⟩
    all_goals
      go_enter Try.func52, Try.ntmps52
      generalize hX : w.alloc (.cells #[.int .i64 f.ven, .int .i64 f.ver, .slice a n cap] 24) = X at *
      go_wp2_with fail
      go_region
      · have hRB : RowAt ((X.alloc (.cells (Array.replicate n (Value.bool false)) 4)).alloc (.cells (Array.replicate n (Value.string ByteArray.empty)) 9)) (X.heap.size) 4 (List.replicate n (Value.bool false)) := (HmB.out X).below (below_box (X.alloc (.cells (Array.replicate n (Value.bool false)) 4)) (.cells (Array.replicate n (Value.string ByteArray.empty)) 9)) (HmB.out X).lt
        have hRS : RowAt ((X.alloc (.cells (Array.replicate n (Value.bool false)) 4)).alloc (.cells (Array.replicate n (Value.string ByteArray.empty)) 9)) (X.heap.size + 1) 9 (List.replicate n (Value.string ByteArray.empty)) := by have := HmS.out (X.alloc (.cells (Array.replicate n (Value.bool false)) 4)); rw [World.size_alloc] at this; exact this
        rw [← FB.out] at hRB
        rw [← hFSx.out] at hRS
        have HoB := Lib.hid (hRB.ownT (base := w.heap.size) List.length_replicate (by omega) hml)
        have HoS := Lib.hid (hRS.ownS (base := w.heap.size) List.length_replicate (by omega) hml)
        have Hbb := Lib.hid (Below.drew' (bt Hw.out (bt (below_box X (.cells (Array.replicate n (Value.bool false)) 4)) (below_box (X.alloc (.cells (Array.replicate n (Value.bool false)) 4)) (.cells (Array.replicate n (Value.string ByteArray.empty)) 9)))))
        have hgg : X.heap.size ≠ X.heap.size + 1 := by omega
        clear hRB hRS
        go_wp2_with fail
        refine bodyPost_ret (v := .tuple #[.slice (some ⟨X.heap.size, 0, none⟩) n n, .slice (some ⟨X.heap.size + 1, 0, none⟩) n n]) ?_ rfl ⟨X.heap.size, n, X.heap.size + 1, n, rfl, by rw [HH.out]; exact HoB.out, by rw [HD.out]; exact HoS.out, hgg, Hbb.out⟩
        simp [results, Try.results52, go_sem]
      · have hRB : RowAt ((X.alloc (.cells (Array.replicate n (Value.string ByteArray.empty)) 9)).alloc (.cells (Array.replicate n (Value.bool false)) 4)) (X.heap.size + 1) 4 (List.replicate n (Value.bool false)) := by have := HmB.out (X.alloc (.cells (Array.replicate n (Value.string ByteArray.empty)) 9)); rw [World.size_alloc] at this; exact this
        have hRS : RowAt ((X.alloc (.cells (Array.replicate n (Value.string ByteArray.empty)) 9)).alloc (.cells (Array.replicate n (Value.bool false)) 4)) (X.heap.size) 9 (List.replicate n (Value.string ByteArray.empty)) := (HmS.out X).below (below_box (X.alloc (.cells (Array.replicate n (Value.string ByteArray.empty)) 9)) (.cells (Array.replicate n (Value.bool false)) 4)) (HmS.out X).lt
        rw [← FB.out] at hRB
        rw [← hFSx.out] at hRS
        have HoB := Lib.hid (hRB.ownT (base := w.heap.size) List.length_replicate (by omega) hml)
        have HoS := Lib.hid (hRS.ownS (base := w.heap.size) List.length_replicate (by omega) hml)
        have Hbb := Lib.hid (Below.drew' (bt Hw.out (bt (below_box X (.cells (Array.replicate n (Value.string ByteArray.empty)) 9)) (below_box (X.alloc (.cells (Array.replicate n (Value.string ByteArray.empty)) 9)) (.cells (Array.replicate n (Value.bool false)) 4)))))
        have hgg : X.heap.size + 1 ≠ X.heap.size := by omega
        clear hRB hRS
        go_wp2_with fail
        refine bodyPost_ret (v := .tuple #[.slice (some ⟨X.heap.size + 1, 0, none⟩) n n, .slice (some ⟨X.heap.size, 0, none⟩) n n]) ?_ rfl ⟨X.heap.size + 1, n, X.heap.size, n, rfl, by rw [HH.out]; exact HoB.out, by rw [HD.out]; exact HoS.out, hgg, Hbb.out⟩
        simp [results, Try.results52, go_sem]
end Go.Proofs.Ytbbfbeacgnimpaa
