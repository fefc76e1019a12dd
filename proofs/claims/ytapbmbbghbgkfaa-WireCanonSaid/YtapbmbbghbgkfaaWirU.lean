/-
  The walk of the law: what is read up to the end without an error is encoded as the same bytes.
-/
import Derived.Test.YtapbmbbghbgkfaaWirT
open Go Go.RowKit Go.Proofs
namespace Go.Proofs.Ytapbmbbghbgkfaa
open Hub

theorem wNewBig_any (s : ByteArray) (w : World) (hs : s.size ≤ maxLen) :
    Calls Try.prog 21 #[.string s] w fun e w' => e = .returned (.pointer (some ⟨w.heap.size, 0, none⟩)) ∧ Below w.heap.size w w' := by
  go_enter Try.func21, Try.ntmps21
  go_wp2
  go_ret
  exact ⟨rfl, (Below.refl _ _).alloc (Nat.le_refl _) _⟩
namespace Hub
/-- What the loop keeps: the reader, the fields read so far, and that their bytes stand before what is left. -/
structure Cn (B N : Nat) (s : ByteArray) (W : World) (v : Value) (l : List WFd) (r : Rs) (X : World) : Prop where
  rd : RdP B r X
  own : OwnF X (B + 1) v l
  each : ∀ f ∈ l, OwnI X (B + 1) f.v f.l
  ok : ∀ f ∈ l, f.ok ∧ f.short 200
  below : Below N W X
  canon : r.err = 0 → bl s = l.flatMap encF ++ r.rest
theorem Cn.own3 {B N : Nat} {s : ByteArray} {W X Z1 Z2 : World} {v : Value} {L : List WFd} {r : Rs} {o o' : Obj} (h : Cn B N s W v L r X) (h1 : Tch B (X.alloc o) Z1) (h2 : Tch X.heap.size Z1 Z2) : OwnF (Z2.alloc o') (B + 1) v L := by
  have a := h.own.alloc o
  have b := a.tch h1 (fun e => by have := (World.ownsRow.lt h.own _ e).1; omega)
  have c := b.tch h2 (fun e => by have := (World.ownsRow.lt h.own _ e).2; omega)
  exact c.alloc o'
theorem Cn.step {B N : Nat} {s : ByteArray} {W X Z1 Z2 Y : World} {v v' : Value} {L : List WFd} {r r' : Rs} {o o' : Obj} (h : Cn B N s W v L r X) (hN : N ≤ B) (h1 : Tch B (X.alloc o) Z1) (h2 : Tch X.heap.size Z1 Z2)
    (hr : RdP B r' Z1) (hg : (Z2.alloc o').grownBy Y v.ownBlock) (f : WFd) (hv : OwnF Y (B + 1) v' (L ++ [f])) (hf : OwnI Z1 (X.alloc o).heap.size f.v f.l) (hok : f.ok ∧ f.short 200)
    (hc : r'.err = 0 → r.err = 0 ∧ r.rest = encF f ++ r'.rest) : Cn B N s W v' (L ++ [f]) r' Y := by
  have hBX := h.rd.lt
  have hown3 := h.own3 (o' := o') h1 h2
  have hz0 : (X.alloc o).heap.size = X.heap.size + 1 := World.size_alloc ..
  have hz1 := h1.size
  have hz2 := h2.size
  have hrow : v.ownBlock ≠ some B := fun e => by have := (World.ownsRow.lt h.own _ e).1; omega
  refine ⟨?_, hv, ?_, ?_, ?_, ?_⟩
  · exact RdP.grown ((hr.kept h2 (by omega)).below ((Below.refl Z2.heap.size _).alloc (Nat.le_refl _) _) (by omega)) hg hrow
  · intro g hgm
    rcases List.mem_append.1 hgm with hm | hm
    · have a := h.each g hm
      have b := (OwnI.alloc a o).tch' h1 (fun e => by have := (World.ownsRow.lt a _ e).1; omega)
      have c := (b.tch' h2 (fun e => by have := (World.ownsRow.lt a _ e).2; omega)).alloc o'
      exact World.ownsRow.kept c hg (fi_ne hown3 c)
    · obtain rfl := List.mem_singleton.1 hm
      have c := (hf.tch' h2 (fun e => by have := (World.ownsRow.lt hf _ e).1; omega)).alloc o'
      have d : OwnI Y (X.alloc o).heap.size g.v g.l := World.ownsRow.kept c hg (fi_ne hown3 c)
      exact d.base (by omega)
  · intro g hgm
    rcases List.mem_append.1 hgm with hm | hm
    · exact h.ok g hm
    · obtain rfl := List.mem_singleton.1 hm; exact hok
  · have a : Below N W Z1 := (h.below.alloc (by omega) o).trans (Tch.below h1 hN (by omega))
    have b : Below N W (Z2.alloc o') := (a.trans (Tch.below h2 (by omega) (by omega))).alloc (by omega) o'
    exact ⟨hg.os.trans b.os, hg.tape.trans b.tape, hg.output.trans b.output, Nat.le_trans b.size hg.size, fun i hi => (hg.block i (by rw [World.size_alloc]; omega) (fun e => by have := (World.ownsRow.lt h.own _ e.symm).1; omega)).trans (b.block i hi)⟩
  · intro he
    obtain ⟨e1, e2⟩ := hc he
    rw [h.canon e1, e2, List.flatMap_append, List.append_assoc]; simp
theorem tch_cell {X Y : World} {B : Nat} (k : Tch B X Y) {C o : Nat} {v : Value} (h : X.cell? ⟨C, o, none⟩ = some v) (hr : C ≠ B) : Y.cell? ⟨C, o, none⟩ = some v := by
  have hB := k.block C (World.block_lt_of_cell? X ⟨C, o, none⟩ h) (by simpa using hr)
  rw [← h]; unfold World.cell?; rw [hB]
theorem tch_froz {X Y : World} {B : Nat} (k : Tch B X Y) {C o : Nat} (hC : C < X.heap.size) (h : X.frozen? ⟨C, o, none⟩ = false) (hr : C ≠ B) : Y.frozen? ⟨C, o, none⟩ = false := by
  have hB := k.block C hC (by simpa using hr)
  rw [← h]; unfold World.frozen?; rw [hB]
theorem own_add {Y : World} {b : Nat} {v' : Value} {L : List WFd} (f : WFd) (h : Y.ownsRow b 37 4 v' (L.length + 1) (L.flatMap fcells ++ fcells f)) : OwnF Y b v' (L ++ [f]) := by
  have e : (L ++ [f]).flatMap fcells = L.flatMap fcells ++ fcells f := by rw [List.flatMap_append]; simp
  unfold OwnF; rw [List.length_append, e]; exact h
end Hub
open Hub

set_option maxRecDepth 20000 in
set_option maxHeartbeats 16000000 in
theorem canon_any (s : ByteArray) (v : Value) (l : List Int) (w : World) (hs : s.size ≤ maxLen) (hv : IntsAt 0 w.heap.size w v l) (hbd : IntB l) (hlm : l.length ≤ maxLen) :
    Calls Try.prog 6 #[.string s, v] w fun e w' => e = .returned (.bool true) ∧ Below w.heap.size w w' := by
  obtain ⟨i0, hi, hz0, hz1, hz2⟩ := info_parts fd_info
  have HV := Lib.hid hv
  have HB := Lib.hid hbd
  have HNB := Lib.hid (fun w => wNewBig_any s w hs)
  obtain ⟨a, cap, rfl, hcc⟩ := hv
  have HC := Lib.hid hcc
  clear hcc hbd
  have hs' : s.size ≤ 9223372036854775807 := hs
  have hlm' : l.length ≤ 9223372036854775807 := hlm
  clear hlm hs
  have HW := Lib.hid awake_any
  by_cases hz : (200 : Int) < (s.size : Int)
  · go_enter Try.func6, Try.ntmps6
    go_wp2_with fail
    refine (HNB.out _).mono ?_
    rintro e w1 ⟨rfl, hb1⟩
    go_wp2_with fail
    refine (HW.out _).mono ?_
    rintro e w8 ⟨rfl, hb8⟩
    go_wp2_with fail
    go_ret
    exact ⟨rfl, bt hb1 hb8⟩
  · by_cases hl : (20 : Int) < (l.length : Int)
    · go_enter Try.func6, Try.ntmps6
      go_wp2_with fail
      refine (HNB.out _).mono ?_
      rintro e w1 ⟨rfl, hb1⟩
      go_wp2_with fail
      refine (HW.out _).mono ?_
      rintro e w8 ⟨rfl, hb8⟩
      go_wp2_with fail
      go_ret
      exact ⟨rfl, bt hb1 hb8⟩
    · have HN := Lib.hid (fun w => wNew_any s w (by omega))
      clear HNB
      go_enter Try.func6, Try.ntmps6
      go_wp2_with fail
      refine (HN.out _).mono ?_
      rintro e w1 ⟨rfl, hP1, hb1, hs1⟩
      go_wp2_with fail
      go_loopw [6, 7] (fun sn i wr => ∃ (k : Nat) (L : List WFd) (r : Rs), k ≤ l.length ∧ i = .int .i64 k ∧ L.length = k ∧ Cn w.heap.size w.heap.size s w sn L r wr) (fun _ i _ => l.length - (intOf i).toNat)
      case atStart => exact ⟨0, [], ⟨bl s, 0⟩, Nat.zero_le _, rfl, rfl, hP1, OwnF.nil _ _, fun f hf => by simp at hf, fun f hf => by simp at hf, hb1, fun _ => rfl⟩
      case round =>
        obtain ⟨k, L, r, hk, rfl, hLk, hcn⟩ := hrel
        have HCN := Lib.hid hcn
        have hP := hcn.rd
        have hbr := hcn.below
        have hown := hcn.own
        clear hcn
        by_cases hlt : k < l.length
        · obtain ⟨bb, off, rfl, _, hbN, hcell⟩ := HC.out (by intro h; rw [h] at hlt; simp at hlt)
          have hck : wr.cell? ⟨bb, off + k, none⟩ = some (.int .i64 l[k]) := by
            rw [hbr.cell (p := ⟨bb, off + k, none⟩) hbN]; exact hcell k hlt
          obtain ⟨q0, q1⟩ := HB.out.get hlt
          clear hcell
          generalize l[k] = q at *
          have hBlt := hP.lt
          by_cases k0 : q = 0
          · subst k0
            go_wp2_with fail
            refine (wrInt_any w.heap.size r _ (hP.below ((Below.refl wr.heap.size wr).alloc (Nat.le_refl _) _) hBlt)).mono ?_
            rintro e w3 ⟨rfl, hP3, hT3⟩
            have hC : wr.heap.size ≠ w.heap.size := by omega
            have hzC : wr.heap.size < w3.heap.size := by have := hT3.size; rw [World.size_alloc] at this; omega
            have c0 := tch_cell hT3 (C := wr.heap.size) (o := 0) ((World.cell?_alloc_at _ _ _ _ rfl).trans rfl) hC
            have c1 := tch_cell hT3 (C := wr.heap.size) (o := 1) ((World.cell?_alloc_at _ _ _ _ rfl).trans rfl) hC
            have c2 := tch_cell hT3 (C := wr.heap.size) (o := 2) ((World.cell?_alloc_at _ _ _ _ rfl).trans rfl) hC
            have c3 := tch_cell hT3 (C := wr.heap.size) (o := 3) ((World.cell?_alloc_at _ _ _ _ rfl).trans rfl) hC
            have g0 := tch_froz hT3 (C := wr.heap.size) (o := 0) (by rw [World.size_alloc]; omega) (World.frozen?_alloc_at _ _ _ _ rfl) hC
            have g1 := tch_froz hT3 (C := wr.heap.size) (o := 1) (by rw [World.size_alloc]; omega) (World.frozen?_alloc_at _ _ _ _ rfl) hC
            have g2 := tch_froz hT3 (C := wr.heap.size) (o := 2) (by rw [World.size_alloc]; omega) (World.frozen?_alloc_at _ _ _ _ rfl) hC
            have g3 := tch_froz hT3 (C := wr.heap.size) (o := 3) (by rw [World.size_alloc]; omega) (World.frozen?_alloc_at _ _ _ _ rfl) hC
            go_wp2_with (at_builtin; refine wpList_append_own _ rfl _ _ 31 rfl (w.heap.size + 1) 37 i0 (.agg #[.int .i64 0, .int .i64 0, .string ByteArray.empty, .slice none 0 0]) 4 56 Try.underlying31 hi hz0 hz1 hz2 rfl (by decide) _ _ _ rfl (HCN.out.own3 hT3 ((Tch.refl wr.heap.size w3).setCell 1 (.int .i64 (rInt r).1))) ⟨w3.heap.size, 0, none⟩ 1 1 (fcells ⟨0, (rInt r).1, ByteArray.empty, .slice none 0 0, []⟩) rfl rfl ?c1 ?c2 ?c3 ?c4 ?c5 ?_)
            case c1 =>
              intro j u hj
              match j, hj with
              | 0, hj => simp [fcells] at hj; subst hj; show World.cell? _ ⟨w3.heap.size, 0, none⟩ = _; exact (World.cell?_alloc_at _ _ w3.heap.size 0 (by first | rfl | simp [World.setCell])).trans rfl
              | 1, hj => simp [fcells] at hj; subst hj; show World.cell? _ ⟨w3.heap.size, 1, none⟩ = _; exact (World.cell?_alloc_at _ _ w3.heap.size 1 (by first | rfl | simp [World.setCell])).trans rfl
              | 2, hj => simp [fcells] at hj; subst hj; show World.cell? _ ⟨w3.heap.size, 2, none⟩ = _; exact (World.cell?_alloc_at _ _ w3.heap.size 2 (by first | rfl | simp [World.setCell])).trans rfl
              | 3, hj => simp [fcells] at hj; subst hj; show World.cell? _ ⟨w3.heap.size, 3, none⟩ = _; exact (World.cell?_alloc_at _ _ w3.heap.size 3 (by first | rfl | simp [World.setCell])).trans rfl
            case c2 => intro u hu; simp [fcells] at hu; rcases hu with rfl | rfl | rfl | rfl <;> rfl
            case c3 => unfold maxLen; omega
            case c4 => omega
            case c5 => simp [World.setCell]; omega
            intro v' w4 hown' hgrow _
            rw [← hLk] at hown'
            have hF := own_add ⟨0, (rInt r).1, ByteArray.empty, .slice none 0 0, []⟩ hown'
            have HFin := HCN.out.step (Nat.le_refl _) hT3 ((Tch.refl wr.heap.size w3).setCell 1 (.int .i64 (rInt r).1)) hP3 hgrow ⟨0, (rInt r).1, ByteArray.empty, .slice none 0 0, []⟩ hF (OwnI.nil _ _) ⟨⟨by simp, by simp, (rInt_bounds r).1, (rInt_bounds r).2, by simp, fun x hx => by simp at hx, by simp⟩, by simp, by simp⟩ (fun h => rInt_canon r h)
            have HFi := Lib.hid HFin
            clear HFin hF hgrow hown' c0 c1 c2 c3 g0 g1 g2 g3 hT3 hP3
            go_wp2_with fail
            go_roundw
            case rel => exact ⟨k + 1, _, _, by omega, by go_num, by simp [hLk], HFi.out⟩
            case measure => simp [intOf]; omega
          · have k0b : (q == 0) = false := by simpa using k0
            by_cases k1 : q = 1
            · subst k1
              have hts := rText_short 200 r
              go_wp2_with fail
              refine (wrText_any w.heap.size r 200 _ (hP.below ((Below.refl wr.heap.size wr).alloc (Nat.le_refl _) _) hBlt)).mono ?_
              rintro e w3 ⟨rfl, hP3, hT3⟩
              have hC : wr.heap.size ≠ w.heap.size := by omega
              have hzC : wr.heap.size < w3.heap.size := by have := hT3.size; rw [World.size_alloc] at this; omega
              have c0 := tch_cell hT3 (C := wr.heap.size) (o := 0) ((World.cell?_alloc_at _ _ _ _ rfl).trans rfl) hC
              have c1 := tch_cell hT3 (C := wr.heap.size) (o := 1) ((World.cell?_alloc_at _ _ _ _ rfl).trans rfl) hC
              have c2 := tch_cell hT3 (C := wr.heap.size) (o := 2) ((World.cell?_alloc_at _ _ _ _ rfl).trans rfl) hC
              have c3 := tch_cell hT3 (C := wr.heap.size) (o := 3) ((World.cell?_alloc_at _ _ _ _ rfl).trans rfl) hC
              have g0 := tch_froz hT3 (C := wr.heap.size) (o := 0) (by rw [World.size_alloc]; omega) (World.frozen?_alloc_at _ _ _ _ rfl) hC
              have g1 := tch_froz hT3 (C := wr.heap.size) (o := 1) (by rw [World.size_alloc]; omega) (World.frozen?_alloc_at _ _ _ _ rfl) hC
              have g2 := tch_froz hT3 (C := wr.heap.size) (o := 2) (by rw [World.size_alloc]; omega) (World.frozen?_alloc_at _ _ _ _ rfl) hC
              have g3 := tch_froz hT3 (C := wr.heap.size) (o := 3) (by rw [World.size_alloc]; omega) (World.frozen?_alloc_at _ _ _ _ rfl) hC
              go_wp2_with (at_builtin; refine wpList_append_own _ rfl _ _ 31 rfl (w.heap.size + 1) 37 i0 (.agg #[.int .i64 0, .int .i64 0, .string ByteArray.empty, .slice none 0 0]) 4 56 Try.underlying31 hi hz0 hz1 hz2 rfl (by decide) _ _ _ rfl (HCN.out.own3 hT3 ((Tch.refl wr.heap.size w3).setCell 2 (.string (mk (rText 200 r).1)))) ⟨w3.heap.size, 0, none⟩ 1 1 (fcells ⟨1, 0, mk (rText 200 r).1, .slice none 0 0, []⟩) rfl rfl ?c1 ?c2 ?c3 ?c4 ?c5 ?_)
              case c1 =>
                intro j u hj
                match j, hj with
                | 0, hj => simp [fcells] at hj; subst hj; show World.cell? _ ⟨w3.heap.size, 0, none⟩ = _; exact (World.cell?_alloc_at _ _ w3.heap.size 0 (by first | rfl | simp [World.setCell])).trans rfl
                | 1, hj => simp [fcells] at hj; subst hj; show World.cell? _ ⟨w3.heap.size, 1, none⟩ = _; exact (World.cell?_alloc_at _ _ w3.heap.size 1 (by first | rfl | simp [World.setCell])).trans rfl
                | 2, hj => simp [fcells] at hj; subst hj; show World.cell? _ ⟨w3.heap.size, 2, none⟩ = _; exact (World.cell?_alloc_at _ _ w3.heap.size 2 (by first | rfl | simp [World.setCell])).trans rfl
                | 3, hj => simp [fcells] at hj; subst hj; show World.cell? _ ⟨w3.heap.size, 3, none⟩ = _; exact (World.cell?_alloc_at _ _ w3.heap.size 3 (by first | rfl | simp [World.setCell])).trans rfl
              case c2 => intro u hu; simp [fcells] at hu; rcases hu with rfl | rfl | rfl | rfl <;> rfl
              case c3 => unfold maxLen; omega
              case c4 => omega
              case c5 => simp [World.setCell]; omega
              intro v' w4 hown' hgrow _
              rw [← hLk] at hown'
              have hF := own_add ⟨1, 0, mk (rText 200 r).1, .slice none 0 0, []⟩ hown'
              have HFin := HCN.out.step (Nat.le_refl _) hT3 ((Tch.refl wr.heap.size w3).setCell 2 (.string (mk (rText 200 r).1))) hP3 hgrow ⟨1, 0, mk (rText 200 r).1, .slice none 0 0, []⟩ hF (OwnI.nil _ _) ⟨⟨by simp, by simp, by simp, by simp, by simp only [size_mk]; omega, fun x hx => by simp at hx, by simp⟩, by simp only [size_mk]; omega, by simp⟩ (fun h => by rw [show encF ⟨1, 0, mk (rText 200 r).1, .slice none 0 0, []⟩ = encT (rText 200 r).1 by rw [encF, if_neg (by simp), if_pos rfl, bl_mk]]; exact rText_canon 200 r h)
              have HFi := Lib.hid HFin
              clear HFin hF hgrow hown' c0 c1 c2 c3 g0 g1 g2 g3 hT3 hP3
              go_wp2_with fail
              go_roundw
              case rel => exact ⟨k + 1, _, _, by omega, by go_num, by simp [hLk], HFi.out⟩
              case measure => simp [intOf]; omega
            · have k1b : (q == 1) = false := by simpa using k1
              by_cases k2 : q = 2
              · subst k2
                cases hbv : (rBool r).1 with
                | true =>
                  go_wp2_with fail
                  refine (wrBool_any w.heap.size r _ (hP.below ((Below.refl wr.heap.size wr).alloc (Nat.le_refl _) _) hBlt)).mono ?_
                  rintro e w3 ⟨rfl, hP3, hT3⟩
                  have hC : wr.heap.size ≠ w.heap.size := by omega
                  have hzC : wr.heap.size < w3.heap.size := by have := hT3.size; rw [World.size_alloc] at this; omega
                  have c0 := tch_cell hT3 (C := wr.heap.size) (o := 0) ((World.cell?_alloc_at _ _ _ _ rfl).trans rfl) hC
                  have c1 := tch_cell hT3 (C := wr.heap.size) (o := 1) ((World.cell?_alloc_at _ _ _ _ rfl).trans rfl) hC
                  have c2 := tch_cell hT3 (C := wr.heap.size) (o := 2) ((World.cell?_alloc_at _ _ _ _ rfl).trans rfl) hC
                  have c3 := tch_cell hT3 (C := wr.heap.size) (o := 3) ((World.cell?_alloc_at _ _ _ _ rfl).trans rfl) hC
                  have g0 := tch_froz hT3 (C := wr.heap.size) (o := 0) (by rw [World.size_alloc]; omega) (World.frozen?_alloc_at _ _ _ _ rfl) hC
                  have g1 := tch_froz hT3 (C := wr.heap.size) (o := 1) (by rw [World.size_alloc]; omega) (World.frozen?_alloc_at _ _ _ _ rfl) hC
                  have g2 := tch_froz hT3 (C := wr.heap.size) (o := 2) (by rw [World.size_alloc]; omega) (World.frozen?_alloc_at _ _ _ _ rfl) hC
                  have g3 := tch_froz hT3 (C := wr.heap.size) (o := 3) (by rw [World.size_alloc]; omega) (World.frozen?_alloc_at _ _ _ _ rfl) hC
                  rw [hbv]
                  go_wp2_with (at_builtin; refine wpList_append_own _ rfl _ _ 31 rfl (w.heap.size + 1) 37 i0 (.agg #[.int .i64 0, .int .i64 0, .string ByteArray.empty, .slice none 0 0]) 4 56 Try.underlying31 hi hz0 hz1 hz2 rfl (by decide) _ _ _ rfl (HCN.out.own3 hT3 ((Tch.refl wr.heap.size w3).setCell 1 (.int .i64 1))) ⟨w3.heap.size, 0, none⟩ 1 1 (fcells ⟨2, 1, ByteArray.empty, .slice none 0 0, []⟩) rfl rfl ?c1 ?c2 ?c3 ?c4 ?c5 ?_)
                  case c1 =>
                    intro j u hj
                    match j, hj with
                    | 0, hj => simp [fcells] at hj; subst hj; show World.cell? _ ⟨w3.heap.size, 0, none⟩ = _; exact (World.cell?_alloc_at _ _ w3.heap.size 0 (by first | rfl | simp [World.setCell])).trans rfl
                    | 1, hj => simp [fcells] at hj; subst hj; show World.cell? _ ⟨w3.heap.size, 1, none⟩ = _; exact (World.cell?_alloc_at _ _ w3.heap.size 1 (by first | rfl | simp [World.setCell])).trans rfl
                    | 2, hj => simp [fcells] at hj; subst hj; show World.cell? _ ⟨w3.heap.size, 2, none⟩ = _; exact (World.cell?_alloc_at _ _ w3.heap.size 2 (by first | rfl | simp [World.setCell])).trans rfl
                    | 3, hj => simp [fcells] at hj; subst hj; show World.cell? _ ⟨w3.heap.size, 3, none⟩ = _; exact (World.cell?_alloc_at _ _ w3.heap.size 3 (by first | rfl | simp [World.setCell])).trans rfl
                  case c2 => intro u hu; simp [fcells] at hu; rcases hu with rfl | rfl | rfl | rfl <;> rfl
                  case c3 => unfold maxLen; omega
                  case c4 => omega
                  case c5 => simp [World.setCell]; omega
                  intro v' w4 hown' hgrow _
                  rw [← hLk] at hown'
                  have hF := own_add ⟨2, 1, ByteArray.empty, .slice none 0 0, []⟩ hown'
                  have HFin := HCN.out.step (Nat.le_refl _) hT3 ((Tch.refl wr.heap.size w3).setCell 1 (.int .i64 1)) hP3 hgrow ⟨2, 1, ByteArray.empty, .slice none 0 0, []⟩ hF (OwnI.nil _ _) ⟨⟨by simp, by simp, by simp, by simp, by simp, fun x hx => by simp at hx, by simp⟩, by simp, by simp⟩ (fun h => by rw [show encF ⟨2, 1, ByteArray.empty, .slice none 0 0, []⟩ = encB (rBool r).1 by rw [hbv]; rfl]; exact rBool_canon r h)
                  have HFi := Lib.hid HFin
                  clear HFin hF hgrow hown' c0 c1 c2 c3 g0 g1 g2 g3 hT3 hP3
                  go_wp2_with fail
                  go_roundw
                  case rel => exact ⟨k + 1, _, _, by omega, by go_num, by simp [hLk], HFi.out⟩
                  case measure => simp [intOf]; omega
                | false =>
                  go_wp2_with fail
                  refine (wrBool_any w.heap.size r _ (hP.below ((Below.refl wr.heap.size wr).alloc (Nat.le_refl _) _) hBlt)).mono ?_
                  rintro e w3 ⟨rfl, hP3, hT3⟩
                  have hC : wr.heap.size ≠ w.heap.size := by omega
                  have hzC : wr.heap.size < w3.heap.size := by have := hT3.size; rw [World.size_alloc] at this; omega
                  have c0 := tch_cell hT3 (C := wr.heap.size) (o := 0) ((World.cell?_alloc_at _ _ _ _ rfl).trans rfl) hC
                  have c1 := tch_cell hT3 (C := wr.heap.size) (o := 1) ((World.cell?_alloc_at _ _ _ _ rfl).trans rfl) hC
                  have c2 := tch_cell hT3 (C := wr.heap.size) (o := 2) ((World.cell?_alloc_at _ _ _ _ rfl).trans rfl) hC
                  have c3 := tch_cell hT3 (C := wr.heap.size) (o := 3) ((World.cell?_alloc_at _ _ _ _ rfl).trans rfl) hC
                  have g0 := tch_froz hT3 (C := wr.heap.size) (o := 0) (by rw [World.size_alloc]; omega) (World.frozen?_alloc_at _ _ _ _ rfl) hC
                  have g1 := tch_froz hT3 (C := wr.heap.size) (o := 1) (by rw [World.size_alloc]; omega) (World.frozen?_alloc_at _ _ _ _ rfl) hC
                  have g2 := tch_froz hT3 (C := wr.heap.size) (o := 2) (by rw [World.size_alloc]; omega) (World.frozen?_alloc_at _ _ _ _ rfl) hC
                  have g3 := tch_froz hT3 (C := wr.heap.size) (o := 3) (by rw [World.size_alloc]; omega) (World.frozen?_alloc_at _ _ _ _ rfl) hC
                  rw [hbv]
                  go_wp2_with (at_builtin; refine wpList_append_own _ rfl _ _ 31 rfl (w.heap.size + 1) 37 i0 (.agg #[.int .i64 0, .int .i64 0, .string ByteArray.empty, .slice none 0 0]) 4 56 Try.underlying31 hi hz0 hz1 hz2 rfl (by decide) _ _ _ rfl (HCN.out.own3 hT3 (Tch.refl wr.heap.size w3)) ⟨w3.heap.size, 0, none⟩ 1 1 (fcells ⟨2, 0, ByteArray.empty, .slice none 0 0, []⟩) rfl rfl ?c1 ?c2 ?c3 ?c4 ?c5 ?_)
                  case c1 =>
                    intro j u hj
                    match j, hj with
                    | 0, hj => simp [fcells] at hj; subst hj; show World.cell? _ ⟨w3.heap.size, 0, none⟩ = _; exact (World.cell?_alloc_at _ _ w3.heap.size 0 (by first | rfl | simp [World.setCell])).trans rfl
                    | 1, hj => simp [fcells] at hj; subst hj; show World.cell? _ ⟨w3.heap.size, 1, none⟩ = _; exact (World.cell?_alloc_at _ _ w3.heap.size 1 (by first | rfl | simp [World.setCell])).trans rfl
                    | 2, hj => simp [fcells] at hj; subst hj; show World.cell? _ ⟨w3.heap.size, 2, none⟩ = _; exact (World.cell?_alloc_at _ _ w3.heap.size 2 (by first | rfl | simp [World.setCell])).trans rfl
                    | 3, hj => simp [fcells] at hj; subst hj; show World.cell? _ ⟨w3.heap.size, 3, none⟩ = _; exact (World.cell?_alloc_at _ _ w3.heap.size 3 (by first | rfl | simp [World.setCell])).trans rfl
                  case c2 => intro u hu; simp [fcells] at hu; rcases hu with rfl | rfl | rfl | rfl <;> rfl
                  case c3 => unfold maxLen; omega
                  case c4 => omega
                  case c5 => simp [World.setCell]; omega
                  intro v' w4 hown' hgrow _
                  rw [← hLk] at hown'
                  have hF := own_add ⟨2, 0, ByteArray.empty, .slice none 0 0, []⟩ hown'
                  have HFin := HCN.out.step (Nat.le_refl _) hT3 (Tch.refl wr.heap.size w3) hP3 hgrow ⟨2, 0, ByteArray.empty, .slice none 0 0, []⟩ hF (OwnI.nil _ _) ⟨⟨by simp, by simp, by simp, by simp, by simp, fun x hx => by simp at hx, by simp⟩, by simp, by simp⟩ (fun h => by rw [show encF ⟨2, 0, ByteArray.empty, .slice none 0 0, []⟩ = encB (rBool r).1 by rw [hbv]; rfl]; exact rBool_canon r h)
                  have HFi := Lib.hid HFin
                  clear HFin hF hgrow hown' c0 c1 c2 c3 g0 g1 g2 g3 hT3 hP3
                  go_wp2_with fail
                  go_roundw
                  case rel => exact ⟨k + 1, _, _, by omega, by go_num, by simp [hLk], HFi.out⟩
                  case measure => simp [intOf]; omega
              · have k2b : (q == 2) = false := by simpa using k2
                have his := rInts_short 200 r
                go_wp2_with fail
                refine (wrInts_any w.heap.size r 200 _ (hP.below ((Below.refl wr.heap.size wr).alloc (Nat.le_refl _) _) hBlt)).mono ?_
                rintro e w3 ⟨v4, rfl, hO3, hP3, hT3⟩
                have hC : wr.heap.size ≠ w.heap.size := by omega
                have hzC : wr.heap.size < w3.heap.size := by have := hT3.size; rw [World.size_alloc] at this; omega
                have c0 := tch_cell hT3 (C := wr.heap.size) (o := 0) ((World.cell?_alloc_at _ _ _ _ rfl).trans rfl) hC
                have c1 := tch_cell hT3 (C := wr.heap.size) (o := 1) ((World.cell?_alloc_at _ _ _ _ rfl).trans rfl) hC
                have c2 := tch_cell hT3 (C := wr.heap.size) (o := 2) ((World.cell?_alloc_at _ _ _ _ rfl).trans rfl) hC
                have c3 := tch_cell hT3 (C := wr.heap.size) (o := 3) ((World.cell?_alloc_at _ _ _ _ rfl).trans rfl) hC
                have g0 := tch_froz hT3 (C := wr.heap.size) (o := 0) (by rw [World.size_alloc]; omega) (World.frozen?_alloc_at _ _ _ _ rfl) hC
                have g1 := tch_froz hT3 (C := wr.heap.size) (o := 1) (by rw [World.size_alloc]; omega) (World.frozen?_alloc_at _ _ _ _ rfl) hC
                have g2 := tch_froz hT3 (C := wr.heap.size) (o := 2) (by rw [World.size_alloc]; omega) (World.frozen?_alloc_at _ _ _ _ rfl) hC
                have g3 := tch_froz hT3 (C := wr.heap.size) (o := 3) (by rw [World.size_alloc]; omega) (World.frozen?_alloc_at _ _ _ _ rfl) hC
                obtain ⟨a4, cap4, rfl, _⟩ := hO3.ints
                go_wp2_with (at_builtin; refine wpList_append_own _ rfl _ _ 31 rfl (w.heap.size + 1) 37 i0 (.agg #[.int .i64 0, .int .i64 0, .string ByteArray.empty, .slice none 0 0]) 4 56 Try.underlying31 hi hz0 hz1 hz2 rfl (by decide) _ _ _ rfl (HCN.out.own3 hT3 ((Tch.refl wr.heap.size w3).setCell 3 (.slice a4 (rInts 200 r).1.length cap4))) ⟨w3.heap.size, 0, none⟩ 1 1 (fcells ⟨q, 0, ByteArray.empty, .slice a4 (rInts 200 r).1.length cap4, (rInts 200 r).1⟩) rfl rfl ?c1 ?c2 ?c3 ?c4 ?c5 ?_)
                case c1 =>
                  intro j u hj
                  match j, hj with
                  | 0, hj => simp [fcells] at hj; subst hj; show World.cell? _ ⟨w3.heap.size, 0, none⟩ = _; exact (World.cell?_alloc_at _ _ w3.heap.size 0 (by first | rfl | simp [World.setCell])).trans rfl
                  | 1, hj => simp [fcells] at hj; subst hj; show World.cell? _ ⟨w3.heap.size, 1, none⟩ = _; exact (World.cell?_alloc_at _ _ w3.heap.size 1 (by first | rfl | simp [World.setCell])).trans rfl
                  | 2, hj => simp [fcells] at hj; subst hj; show World.cell? _ ⟨w3.heap.size, 2, none⟩ = _; exact (World.cell?_alloc_at _ _ w3.heap.size 2 (by first | rfl | simp [World.setCell])).trans rfl
                  | 3, hj => simp [fcells] at hj; subst hj; show World.cell? _ ⟨w3.heap.size, 3, none⟩ = _; exact (World.cell?_alloc_at _ _ w3.heap.size 3 (by first | rfl | simp [World.setCell])).trans rfl
                case c2 => intro u hu; simp [fcells] at hu; rcases hu with rfl | rfl | rfl | rfl <;> rfl
                case c3 => unfold maxLen; omega
                case c4 => omega
                case c5 => simp [World.setCell]; omega
                intro v' w4 hown' hgrow _
                rw [← hLk] at hown'
                have hF := own_add ⟨q, 0, ByteArray.empty, .slice a4 (rInts 200 r).1.length cap4, (rInts 200 r).1⟩ hown'
                have HFin := HCN.out.step (Nat.le_refl _) hT3 ((Tch.refl wr.heap.size w3).setCell 3 (.slice a4 (rInts 200 r).1.length cap4)) hP3 hgrow ⟨q, 0, ByteArray.empty, .slice a4 (rInts 200 r).1.length cap4, (rInts 200 r).1⟩ hF hO3 ⟨⟨q0, q1, by simp only; omega, by simp only; omega, by simp, his.1, by simp only; omega⟩, by simp, by simp only; omega⟩ (fun h => by rw [show encF ⟨q, 0, ByteArray.empty, .slice a4 (rInts 200 r).1.length cap4, (rInts 200 r).1⟩ = encL (rInts 200 r).1 by rw [encF, if_neg k0, if_neg k1, if_neg k2]]; exact rInts_canon 200 r h)
                have HFi := Lib.hid HFin
                clear HFin hF hgrow hown' c0 c1 c2 c3 g0 g1 g2 g3 hT3 hP3
                go_wp2_with fail
                go_roundw
                case rel => exact ⟨k + 1, _, _, by omega, by go_num, by simp [hLk], HFi.out⟩
                case measure => simp [intOf]; omega
        · obtain rfl : k = l.length := by omega
          by_cases he : rEnd r = 0
          · have hr0 : r.err = 0 ∧ r.rest = [] := by
              rw [rEnd] at he
              by_cases h1 : r.err = 0
              · rw [if_neg (by simpa using h1)] at he
                refine ⟨h1, ?_⟩
                by_cases h2 : 0 < r.rest.length
                · rw [if_pos h2] at he; simp at he
                · exact List.length_eq_zero_iff.1 (by omega)
              · rw [if_pos h1] at he; exact absurd he h1
            have hcan := HCN.out.canon hr0.1
            rw [hr0.2, List.append_nil] at hcan
            have HBy := Lib.hid (bytes_any _ L _ _ wr (HCN.out.own.fds HCN.out.each) (Nat.le_refl _) (by omega) HCN.out.ok)
            rw [← hcan, mk_bl] at HBy
            obtain ⟨a4, cap4, rfl, _⟩ := HCN.out.own.fds HCN.out.each
            have hby := HBy.out
            rw [hLk] at hby
            have HBz := Lib.hid hby
            clear hcan hr0 hown hby HBy
            go_wp2_with fail
            refine (wEnd_any _ r _ hP).mono ?_
            rintro e w3 ⟨rfl, rfl⟩
            rw [he]
            go_wp2_with fail
            refine HBz.out.mono ?_
            rintro e w4 ⟨rfl, hb4⟩
            go_wp2_with fail
            refine (HW.out _).mono ?_
            rintro e w8 ⟨rfl, hb8⟩
            go_wp2_with fail
            go_ret
            exact ⟨rfl, bt (bt hbr hb4) hb8⟩
          · have heb : (rEnd r != 0) = true := by simpa using he
            obtain ⟨a4, cap4, rfl, _⟩ := HCN.out.own.fds HCN.out.each
            clear hown
            go_wp2_with fail
            refine (wEnd_any _ r _ hP).mono ?_
            rintro e w3 ⟨rfl, rfl⟩
            generalize rEnd r = z at *
            clear hP he
            go_wp2_with fail
            refine (HW.out _).mono ?_
            rintro e w8 ⟨rfl, hb8⟩
            go_wp2_with fail
            go_ret
            exact ⟨rfl, bt hbr hb8⟩
end Go.Proofs.Ytapbmbbghbgkfaa
