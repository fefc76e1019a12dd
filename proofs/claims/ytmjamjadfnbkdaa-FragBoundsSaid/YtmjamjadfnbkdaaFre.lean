/-
  Fragments: entries in memory: given lists of them, the call's own, boxes of one entry; the walks of what finds an entry.
-/
import Derived.Test.YtmjamjadfnbkdaaFrb
open Go Go.RowKit Go.Proofs
namespace Go.Proofs.Ytmjamjadfnbkdaa
namespace Hub
/-- An entry, and the values of its two lists. -/
structure Pt where
  pk : Pk
  vh : Value
  vd : Value
def ptv (p : Pt) : Value := .agg #[.int .i64 p.pk.src, .int .i64 p.pk.id, .int .i64 p.pk.cnt, .int .i64 p.pk.since, p.vh, p.vd]
def pcells (p : Pt) : List Value := [.int .i64 p.pk.src, .int .i64 p.pk.id, .int .i64 p.pk.cnt, .int .i64 p.pk.since, p.vh, p.vd]
theorem pt_info : (Try.prog.info? 44).map (fun i => (i.zero, i.size, i.bytes)) = some (some (.agg #[.int .i64 0, .int .i64 0, .int .i64 0, .int .i64 0, .slice none 0 0, .slice none 0 0]), 6, 80) := by kernel_rfl
def Shp (p : Pt) : Prop := (∃ a n c, p.vh = .slice a n c) ∧ ∃ a n c, p.vd = .slice a n c
/-- The six cells of an entry, whose lists are slices. -/
def SixAt (w : World) (b o : Nat) (p : Pt) : Prop :=
  Shp p ∧
  w.cell? ⟨b, o, none⟩ = some (.int .i64 p.pk.src) ∧ w.cell? ⟨b, o + 1, none⟩ = some (.int .i64 p.pk.id) ∧ w.cell? ⟨b, o + 2, none⟩ = some (.int .i64 p.pk.cnt) ∧
  w.cell? ⟨b, o + 3, none⟩ = some (.int .i64 p.pk.since) ∧ w.cell? ⟨b, o + 4, none⟩ = some p.vh ∧ w.cell? ⟨b, o + 5, none⟩ = some p.vd
theorem SixAt.below {w w' : World} {b o N : Nat} {p : Pt} (h : SixAt w b o p) (k : Below N w w') (hb : b < N) : SixAt w' b o p := by
  obtain ⟨hs, h0, h1, h2, h3, h4, h5⟩ := h
  exact ⟨hs, (k.cell (p := ⟨b, o, none⟩) hb).trans h0, (k.cell (p := ⟨b, o + 1, none⟩) hb).trans h1, (k.cell (p := ⟨b, o + 2, none⟩) hb).trans h2, (k.cell (p := ⟨b, o + 3, none⟩) hb).trans h3, (k.cell (p := ⟨b, o + 4, none⟩) hb).trans h4, (k.cell (p := ⟨b, o + 5, none⟩) hb).trans h5⟩
/-- The rows of the slice v are the entries l. -/
def RowsAt (lo N : Nat) (w : World) (v : Value) (l : List Pt) : Prop :=
  ∃ a cap, v = .slice a l.length cap ∧ l.length ≤ cap ∧ (l ≠ [] → ∃ b off, a = some ⟨b, off, none⟩ ∧ lo ≤ b ∧ b < N ∧ ∀ i (h : i < l.length), SixAt w b (off + i * 6) l[i])
/-- The lists of each entry hold what its data says. -/
def DatAt (lo N : Nat) (w : World) (l : List Pt) : Prop := ∀ p ∈ l, BoolsAt lo N w p.vh p.pk.hv ∧ StrsAt lo N w p.vd p.pk.dt
def PtsAt (lo N : Nat) (w : World) (v : Value) (l : List Pt) : Prop := RowsAt lo N w v l ∧ DatAt lo N w l
theorem RowsAt.nil (lo N : Nat) (w : World) : RowsAt lo N w (.slice none 0 0) [] := ⟨none, 0, rfl, Nat.le_refl _, fun h => absurd rfl h⟩
theorem PtsAt.nil (lo N : Nat) (w : World) : PtsAt lo N w (.slice none 0 0) [] := ⟨RowsAt.nil _ _ _, fun p hp => by simp at hp⟩
theorem RowsAt.below {lo N M : Nat} {w w' : World} {v : Value} {l : List Pt} (h : RowsAt lo N w v l) (hb : Below M w w') (hN : N ≤ M) : RowsAt lo N w' v l := by
  obtain ⟨a, cap, hv, hcap, hc⟩ := h
  refine ⟨a, cap, hv, hcap, fun hne => ?_⟩
  obtain ⟨b, off, ha, hlo, hbN, hcell⟩ := hc hne
  exact ⟨b, off, ha, hlo, hbN, fun i hi => (hcell i hi).below hb (by omega)⟩
theorem RowsAt.wide {lo lo' N N' : Nat} {w : World} {v : Value} {l : List Pt} (h : RowsAt lo N w v l) (hl : lo' ≤ lo) (hN : N ≤ N') : RowsAt lo' N' w v l := by
  obtain ⟨a, cap, hv, hcap, hc⟩ := h
  refine ⟨a, cap, hv, hcap, fun hne => ?_⟩
  obtain ⟨b, off, ha, hlo, hbN, hcell⟩ := hc hne
  exact ⟨b, off, ha, by omega, by omega, hcell⟩
theorem DatAt.below {lo N M : Nat} {w w' : World} {l : List Pt} (h : DatAt lo N w l) (hb : Below M w w') (hN : N ≤ M) : DatAt lo N w' l := fun p hp => ⟨(h p hp).1.below hb hN, (h p hp).2.below hb hN⟩
theorem DatAt.wide {lo lo' N N' : Nat} {w : World} {l : List Pt} (h : DatAt lo N w l) (hl : lo' ≤ lo) (hN : N ≤ N') : DatAt lo' N' w l := fun p hp => ⟨(h p hp).1.wide hl hN, (h p hp).2.wide hl hN⟩
theorem PtsAt.below {lo N M : Nat} {w w' : World} {v : Value} {l : List Pt} (h : PtsAt lo N w v l) (hb : Below M w w') (hN : N ≤ M) : PtsAt lo N w' v l := ⟨h.1.below hb hN, h.2.below hb hN⟩
theorem PtsAt.wide {lo lo' N N' : Nat} {w : World} {v : Value} {l : List Pt} (h : PtsAt lo N w v l) (hl : lo' ≤ lo) (hN : N ≤ N') : PtsAt lo' N' w v l := ⟨h.1.wide hl hN, h.2.wide hl hN⟩
theorem RowsAt.cells {lo N : Nat} {w : World} {a : Option Addr} {n cap : Nat} {l : List Pt} (h : RowsAt lo N w (.slice a n cap) l) {k : Nat} (hk : k < l.length) :
    ∃ b off, a = some ⟨b, off, none⟩ ∧ lo ≤ b ∧ b < N ∧ SixAt w b (off + k * 6) l[k] := by
  obtain ⟨a', cap', e, _, hc⟩ := h
  simp only [Value.slice.injEq] at e
  obtain ⟨rfl, -, -⟩ := e
  obtain ⟨b, off, ha, hlo, hbN, hcell⟩ := hc (by intro e; rw [e] at hk; simp at hk)
  exact ⟨b, off, ha, hlo, hbN, hcell k hk⟩
/-- Block k is a box of one entry. -/
def PBox (k : Nat) (p : Pt) (w : World) : Prop := w.heap[k]? = some (.cells #[.int .i64 p.pk.src, .int .i64 p.pk.id, .int .i64 p.pk.cnt, .int .i64 p.pk.since, p.vh, p.vd] 44 (0, 0))
section
variable {k : Nat} {p : Pt} {w w' : World}
theorem PBox.lt (h : PBox k p w) : k < w.heap.size := (Array.getElem?_eq_some_iff.1 h).1
theorem PBox.below {N : Nat} (h : PBox k p w) (t : Below N w w') (hn : k < N) : PBox k p w' := by unfold PBox; rw [t.block k hn]; exact h
theorem PBox.six (h : PBox k p w) (hs : Shp p) : SixAt w k 0 p := by
  refine ⟨hs, ?_, ?_, ?_, ?_, ?_, ?_⟩ <;> (rw [Lib.cell_of_heap h]; rfl)
theorem PBox.f (h : PBox k p w) (i : Nat) : w.frozen? ⟨k, i, none⟩ = false := Lib.frozen_of_heap h i
theorem PBox.new (w : World) (p : Pt) : PBox w.heap.size p (w.alloc (.cells #[.int .i64 p.pk.src, .int .i64 p.pk.id, .int .i64 p.pk.cnt, .int .i64 p.pk.since, p.vh, p.vd] 44)) := heap_alloc_new w _
theorem PBox.tch {C : Nat} (h : PBox k p w) (t : Tch C w w') (hn : k ≠ C) : PBox k p w' := by unfold PBox; rw [t.block k h.lt (by simpa using hn)]; exact h
theorem PBox.set4 (h : PBox k p w) (y : Value) : PBox k { p with vh := y } (w.setCell ⟨k, 4, none⟩ y) := by unfold PBox; simp [World.setCell, Array.getElem?_modify, show w.heap[k]? = _ from h]
theorem PBox.set5 (h : PBox k p w) (y : Value) : PBox k { p with vd := y } (w.setCell ⟨k, 5, none⟩ y) := by unfold PBox; simp [World.setCell, Array.getElem?_modify, show w.heap[k]? = _ from h]
end
theorem findF_step {l : List Pk} {s i : Int} {k : Nat} (h : ∀ j (hj : j < l.length), j < k → keyIs s i l[j] = false) (hk : k < l.length) (he : keyIs s i l[k] = true) : findF l s i = (k : Int) := by
  unfold findF
  have : l.findIdx? (keyIs s i) = some k := by
    rw [List.findIdx?_eq_some_iff_getElem]
    exact ⟨hk, he, fun j hj => by simpa using h j (by omega) hj⟩
  rw [this]
theorem findF_none {l : List Pk} {s i : Int} (h : ∀ j (hj : j < l.length), keyIs s i l[j] = false) : findF l s i = -1 := by
  unfold findF
  have : l.findIdx? (keyIs s i) = none := by
    rw [List.findIdx?_eq_none_iff]
    intro p hp
    obtain ⟨j, hj, rfl⟩ := List.getElem_of_mem hp
    exact h j hj
  rw [this]
end Hub
open Hub

set_option maxHeartbeats 1000000 in
theorem find_any (v : Value) (l : List Pt) (lo N : Nat) (s i : Int) (w : World) (hv : RowsAt lo N w v l) (hN : N ≤ w.heap.size) (hl : l.length ≤ 1099511627776) :
    Calls Try.prog 26 #[v, .int .i64 s, .int .i64 i] w fun e w' => e = .returned (.int .i64 (findF (l.map Pt.pk) s i)) ∧ Below w.heap.size w w' := by
  obtain ⟨n, hn⟩ : ∃ n, l.length = n := ⟨_, rfl⟩
  have HNo := Lib.hid (fun h => findF_none (l := l.map Pt.pk) (s := s) (i := i) h)
  have HYes := Lib.hid (fun (k : Nat) h hk he => findF_step (l := l.map Pt.pk) (s := s) (i := i) (k := k) h hk he)
  generalize findF (l.map Pt.pk) s i = R at *
  have HV := Lib.hid (fun w' (k : Below w.heap.size w w') => hv.below k hN)
  obtain ⟨a, cap, rfl, -⟩ := hv
  rw [hn] at HV hl ⊢
  have Hn := Lib.hid hn
  clear hn
  go_enter Try.func26, Try.ntmps26
  go_wp2_with fail
  go_loopw [11] (fun q wr => ∃ k : Nat, k ≤ n ∧ q = .int .i64 k ∧ (∀ j (hj : j < (l.map Pt.pk).length), j < k → keyIs s i (l.map Pt.pk)[j] = false) ∧ Below w.heap.size w wr) (fun q _ => n - (intOf q).toNat)
  case atStart => exact ⟨0, Nat.zero_le _, rfl, fun j _ h => by omega, Below.refl _ _⟩
  case round =>
    obtain ⟨k, hk, rfl, hall, hb⟩ := hrel
    by_cases hlt : k < n
    · have hkl : k < l.length := by rw [Hn.out]; exact hlt
      have hkm : k < (l.map Pt.pk).length := by rw [List.length_map]; exact hkl
      have hki : (k : Int) < (n : Int) := by omega
      obtain ⟨bk, off, rfl, _, hbk, ⟨⟨xa, xn, xc, hvh⟩, ya, yn, yc, hvd⟩, c0, c1, c2, c3, c4, c5⟩ := (HV.out wr hb).cells hkl
      have he : (l.map Pt.pk)[k] = l[k].pk := by simp
      have HY := Lib.hid (fun h => HYes.out k hall hkm (by rw [he]; exact h))
      have HA := Lib.hid (fun (h : keyIs s i l[k].pk = false) j (hj : j < (l.map Pt.pk).length) (hjk : j < k + 1) => (show keyIs s i (l.map Pt.pk)[j] = false from by
        by_cases e2 : j = k
        · subst e2; rw [he]; exact h
        · exact hall j hj (by omega)))
      have hbx : bk < wr.heap.size := Nat.lt_of_lt_of_le hbk (Nat.le_trans hN hb.size)
      have Hb := Lib.hid hb
      clear hall he hb
      generalize l[k] = p at *
      obtain ⟨p, vh, vd⟩ := p
      dsimp only at hvh hvd c0 c1 c2 c3 c4 c5 HY HA
      subst hvh hvd
      unfold keyIs at HY HA
      have HB := Lib.hid (fun o => below_box wr o)
      by_cases e1 : p.src = s
      · have d1 : (p.src == s) = true := by simpa using e1
        by_cases e2 : p.id = i
        · have d2 : (p.id == i) = true := by simpa using e2
          have hR := HY.out (by rw [d1, d2]; rfl)
          subst hR
          clear HY HA e1 e2
          go_wp2_with fail
          go_ret
          exact ⟨rfl, bt Hb.out (HB.out _)⟩
        · have d2 : (p.id == i) = false := by simpa using e2
          have HA2 := Lib.hid (HA.out (by rw [d2, Bool.and_false]))
          clear HY HA e1 e2
          go_wp2_with fail
          go_roundw
          case rel => exact ⟨k + 1, by omega, by go_num, HA2.out, bt Hb.out (HB.out _)⟩
          case measure => simp [intOf]; omega
      · have d1 : (p.src == s) = false := by simpa using e1
        have HA2 := Lib.hid (HA.out (by rw [d1, Bool.false_and]))
        clear HY HA e1
        go_wp2_with fail
        go_roundw
        case rel => exact ⟨k + 1, by omega, by go_num, HA2.out, bt Hb.out (HB.out _)⟩
        case measure => simp [intOf]; omega
    · have hki : ¬ (k : Int) < (n : Int) := by omega
      have hR := HNo.out (fun j hj => hall j hj (by rw [List.length_map, Hn.out] at hj; omega))
      subst hR
      have Hb := Lib.hid hb
      clear hall hb
      go_wp2_with fail
      go_ret
      exact ⟨rfl, Hb.out⟩

set_option maxHeartbeats 1000000 in
theorem xFind_any (v : Value) (l : List Pt) (lo N : Nat) (s i : Int) (w : World) (hv : RowsAt lo N w v l) (hN : N ≤ w.heap.size) (hl : l.length ≤ 1099511627776) :
    Calls Try.prog 31 #[v, .int .i64 s, .int .i64 i] w fun e w' => e = .returned (.int .i64 (findF (l.map Pt.pk) s i)) ∧ Below w.heap.size w w' := by
  obtain ⟨n, hn⟩ : ∃ n, l.length = n := ⟨_, rfl⟩
  have HNo := Lib.hid (fun h => findF_none (l := l.map Pt.pk) (s := s) (i := i) h)
  have HYes := Lib.hid (fun (k : Nat) h hk he => findF_step (l := l.map Pt.pk) (s := s) (i := i) (k := k) h hk he)
  generalize findF (l.map Pt.pk) s i = R at *
  have HV := Lib.hid (fun w' (k : Below w.heap.size w w') => hv.below k hN)
  obtain ⟨a, cap, rfl, -⟩ := hv
  rw [hn] at HV hl ⊢
  have Hn := Lib.hid hn
  clear hn
  go_enter Try.func31, Try.ntmps31
  go_wp2_with fail
  go_loopw [10] (fun q wr => ∃ k : Nat, k ≤ n ∧ q = .int .i64 k ∧ (∀ j (hj : j < (l.map Pt.pk).length), j < k → keyIs s i (l.map Pt.pk)[j] = false) ∧ Below w.heap.size w wr) (fun q _ => n - (intOf q).toNat)
  case atStart => exact ⟨0, Nat.zero_le _, rfl, fun j _ h => by omega, Below.refl _ _⟩
  case round =>
    obtain ⟨k, hk, rfl, hall, hb⟩ := hrel
    by_cases hlt : k < n
    · have hkl : k < l.length := by rw [Hn.out]; exact hlt
      have hkm : k < (l.map Pt.pk).length := by rw [List.length_map]; exact hkl
      have hki : (k : Int) < (n : Int) := by omega
      obtain ⟨bk, off, rfl, _, hbk, ⟨⟨xa, xn, xc, hvh⟩, ya, yn, yc, hvd⟩, c0, c1, c2, c3, c4, c5⟩ := (HV.out wr hb).cells hkl
      have he : (l.map Pt.pk)[k] = l[k].pk := by simp
      have HY := Lib.hid (fun h => HYes.out k hall hkm (by rw [he]; exact h))
      have HA := Lib.hid (fun (h : keyIs s i l[k].pk = false) j (hj : j < (l.map Pt.pk).length) (hjk : j < k + 1) => (show keyIs s i (l.map Pt.pk)[j] = false from by
        by_cases e2 : j = k
        · subst e2; rw [he]; exact h
        · exact hall j hj (by omega)))
      have hbx : bk < wr.heap.size := Nat.lt_of_lt_of_le hbk (Nat.le_trans hN hb.size)
      have Hb := Lib.hid hb
      clear hall he hb
      generalize l[k] = p at *
      obtain ⟨p, vh, vd⟩ := p
      dsimp only at hvh hvd c0 c1 c2 c3 c4 c5 HY HA
      subst hvh hvd
      unfold keyIs at HY HA
      by_cases e1 : p.src = s
      · have d1 : (p.src == s) = true := by simpa using e1
        by_cases e2 : p.id = i
        · have d2 : (p.id == i) = true := by simpa using e2
          have hR := HY.out (by rw [d1, d2]; rfl)
          subst hR
          clear HY HA e1 e2
          go_wp2_with fail
          go_ret
          exact ⟨rfl, Hb.out⟩
        · have d2 : (p.id == i) = false := by simpa using e2
          have HA2 := Lib.hid (HA.out (by rw [d2, Bool.and_false]))
          clear HY HA e1 e2
          go_wp2_with fail
          go_roundw
          case rel => exact ⟨k + 1, by omega, by go_num, HA2.out, Hb.out⟩
          case measure => simp [intOf]; omega
      · have d1 : (p.src == s) = false := by simpa using e1
        have HA2 := Lib.hid (HA.out (by rw [d1, Bool.false_and]))
        clear HY HA e1
        go_wp2_with fail
        go_roundw
        case rel => exact ⟨k + 1, by omega, by go_num, HA2.out, Hb.out⟩
        case measure => simp [intOf]; omega
    · have hki : ¬ (k : Int) < (n : Int) := by omega
      have hR := HNo.out (fun j hj => hall j hj (by rw [List.length_map, Hn.out] at hj; omega))
      subst hR
      have Hb := Lib.hid hb
      clear hall hb
      go_wp2_with fail
      go_ret
      exact ⟨rfl, Hb.out⟩
end Go.Proofs.Ytmjamjadfnbkdaa
