/-
  Fragments: the walk of what copies an entry, the program's.
-/
import Derived.Test.YtmjamjadfnbkdaaFrf
open Go Go.RowKit Go.Proofs
namespace Go.Proofs.Ytmjamjadfnbkdaa
namespace Hub
/-- Block g is a row of the call's own that holds the values l. -/
def RowAt (x : World) (g : Nat) (T : TypeId) (l : List Value) : Prop := x.heap[g]? = some (.cells l.toArray T (0, 0))
section
variable {x x' : World} {g : Nat} {T : TypeId} {l : List Value}
theorem RowAt.lt (h : RowAt x g T l) : g < x.heap.size := (Array.getElem?_eq_some_iff.1 h).1
theorem RowAt.below {N : Nat} (h : RowAt x g T l) (t : Below N x x') (hn : g < N) : RowAt x' g T l := by unfold RowAt; rw [t.block g hn]; exact h
theorem RowAt.tch {C : Nat} (h : RowAt x g T l) (t : Tch C x x') (hn : g ≠ C) : RowAt x' g T l := by unfold RowAt; rw [t.block g h.lt (by simpa using hn)]; exact h
theorem RowAt.fresh (w : World) (l : List Value) (T : TypeId) : RowAt (w.alloc (.cells l.toArray T)) w.heap.size T l := heap_alloc_new w _
theorem tch_setRow (x : World) (g : Nat) (cs : Array Value) : Tch g x (x.setRow g cs) := ⟨rfl, rfl, rfl, by simp [World.setRow], fun k _ hn => setRow_other x g k cs (fun e => hn (by rw [e]))⟩
theorem RowAt.setRow (h : RowAt x g T l) (cs : Array Value) (m : List Value) (hm : cs = m.toArray) : RowAt (x.setRow g cs) g T m := by
  subst hm; exact setRow_heap x g _ _ T _ h
theorem RowAt.ownT {lb : List Bool} {n base : Nat} (h : RowAt x g 4 (lb.map Value.bool)) (hn : lb.length = n) (hb : base ≤ g) (hm : n ≤ maxLen) : OwnT x base (.slice (some ⟨g, 0, none⟩) n n) lb :=
  ⟨by simp, .inr ⟨g, n, (lb.map Value.bool).toArray, by rw [hn], hb, h, by omega, hm, by simp [hn], List.take_of_length_le (by simp [hn])⟩⟩
theorem RowAt.ownS {lb : List ByteArray} {n base : Nat} (h : RowAt x g 9 (lb.map Value.string)) (hn : lb.length = n) (hb : base ≤ g) (hm : n ≤ maxLen) : OwnS x base (.slice (some ⟨g, 0, none⟩) n n) lb :=
  ⟨by simp, .inr ⟨g, n, (lb.map Value.string).toArray, by rw [hn], hb, h, by omega, hm, by simp [hn], List.take_of_length_le (by simp [hn])⟩⟩
end
theorem add_off' (B o j : Nat) : (⟨B, o, none⟩ : Addr).add j = ⟨B, o + j, none⟩ := by unfold Addr.add; split <;> simp_all
theorem BoolsAt.src {lo N : Nat} {w : World} {v : Value} {l : List Bool} (h : BoolsAt lo N w v l) (hne : l ≠ []) :
    ∃ bk off cap, v = .slice (some ⟨bk, off, none⟩) l.length cap ∧ bk < N ∧ ∀ j u, (l.map Value.bool)[j]? = some u → w.cell? ((⟨bk, off, none⟩ : Addr).add j) = some u := by
  obtain ⟨a, cap, rfl, _, hc⟩ := h
  obtain ⟨bk, off, rfl, _, hbN, hcell⟩ := hc hne
  refine ⟨bk, off, cap, rfl, hbN, fun j u hj => ?_⟩
  rw [List.getElem?_map, Option.map_eq_some_iff] at hj
  obtain ⟨x, hx, rfl⟩ := hj
  obtain ⟨hlt, rfl⟩ := List.getElem?_eq_some_iff.1 hx
  rw [add_off']; exact hcell j hlt
theorem StrsAt.src {lo N : Nat} {w : World} {v : Value} {l : List ByteArray} (h : StrsAt lo N w v l) (hne : l ≠ []) :
    ∃ bk off cap, v = .slice (some ⟨bk, off, none⟩) l.length cap ∧ bk < N ∧ ∀ j u, (l.map Value.string)[j]? = some u → w.cell? ((⟨bk, off, none⟩ : Addr).add j) = some u := by
  obtain ⟨a, cap, rfl, _, hc⟩ := h
  obtain ⟨bk, off, rfl, _, hbN, hcell⟩ := hc hne
  refine ⟨bk, off, cap, rfl, hbN, fun j u hj => ?_⟩
  rw [List.getElem?_map, Option.map_eq_some_iff] at hj
  obtain ⟨x, hx, rfl⟩ := hj
  obtain ⟨hlt, rfl⟩ := List.getElem?_eq_some_iff.1 hx
  rw [add_off']; exact hcell j hlt
theorem one_bools (l : List Bool) : ∀ u ∈ l.map Value.bool, u.oneCell' = true := by
  intro u hu; obtain ⟨x, _, rfl⟩ := List.mem_map.1 hu; rfl
theorem one_strs (l : List ByteArray) : ∀ u ∈ l.map Value.string, u.oneCell' = true := by
  intro u hu; obtain ⟨x, _, rfl⟩ := List.mem_map.1 hu; rfl
theorem copied {m cur : List Value} (h : m.length = cur.length) : (cur.take 0 ++ (m ++ cur.drop (0 + m.length))).toArray = m.toArray := by
  rw [Nat.zero_add, h, List.drop_length]; simp
theorem made_one (z : Value) (n : Nat) : madeCells #[z] n = (List.replicate n z).toArray := by
  apply Array.toList_inj.1; rw [toList_madeCells_one]
theorem tch_cell {C : Nat} {w w' : World} (t : Tch C w w') {p : Addr} (hp : p.block < w.heap.size) (hn : p.block ≠ C) : w'.cell? p = w.cell? p := by
  unfold World.cell?; rw [t.block p.block hp (by simpa using hn)]
theorem tch_new {w w1 w2 : World} {N B : Nat} (h : Below N w w1) (k : Tch B w1 w2) (hB : N ≤ B) (hN : N ≤ w.heap.size) : Below N w w2 :=
  h.trans (k.below hB (Nat.le_trans hN h.size))
/-- A box is filled anew. -/
theorem PBox.fill {k : Nat} {p : Pt} {w : World} (h : PBox k p w) (q : Pt) : PBox k q ((((((w.setCell ⟨k, 0, none⟩ (.int .i64 q.pk.src)).setCell ⟨k, 1, none⟩ (.int .i64 q.pk.id)).setCell ⟨k, 2, none⟩ (.int .i64 q.pk.cnt)).setCell ⟨k, 3, none⟩ (.int .i64 q.pk.since)).setCell ⟨k, 4, none⟩ q.vh).setCell ⟨k, 5, none⟩ q.vd) := by
  unfold PBox; simp [World.setCell, Array.getElem?_modify, show w.heap[k]? = _ from h]
theorem tch_fill (w : World) (k : Nat) (a b c d e f : Value) : Tch k w ((((((w.setCell ⟨k, 0, none⟩ a).setCell ⟨k, 1, none⟩ b).setCell ⟨k, 2, none⟩ c).setCell ⟨k, 3, none⟩ d).setCell ⟨k, 4, none⟩ e).setCell ⟨k, 5, none⟩ f) :=
  ((((((Tch.refl _ _).setCell 0 _).setCell 1 _).setCell 2 _).setCell 3 _).setCell 4 _).setCell 5 _
/-- The empty entry. -/
def noPt : Pt := ⟨⟨0, 0, 0, 0, [], []⟩, .slice none 0 0, .slice none 0 0⟩
theorem noPt_shp : Shp noPt := ⟨⟨_, _, _, rfl⟩, _, _, _, rfl⟩
end Hub
open Hub

set_option maxHeartbeats 2000000 in
theorem own_any (p : Pt) (lo N n : Nat) (w : World) (hh : BoolsAt lo N w p.vh p.pk.hv) (hd : StrsAt lo N w p.vd p.pk.dt) (hN : N ≤ w.heap.size) (hn1 : 1 ≤ n) (hn2 : n ≤ 16) (hlh : p.pk.hv.length = n) (hld : p.pk.dt.length = n) :
    Calls Try.prog 37 #[ptv p] w fun e w' => ∃ vh vd, e = .returned (ptv ⟨p.pk, vh, vd⟩) ∧ OwnT w' w.heap.size vh p.pk.hv ∧ OwnS w' w.heap.size vd p.pk.dt ∧ Below w.heap.size w w' := by
  obtain ⟨i0, hi, hz0, hz1, hz2⟩ := info_parts bool_info
  obtain ⟨j0, hj, hy0, hy1, hy2⟩ := info_parts str_info
  have hml : n ≤ maxLen := by unfold maxLen; omega
  have mB := fun W => run_make_row (P := Try.prog) 38 4 i0 (.bool false) Try.underlying38 hi hz0 hz1 rfl .i64 .i64 n (by rw [hz2]; omega) (by omega) W
  have mS := fun W => run_make_row (P := Try.prog) 23 9 j0 (.string ByteArray.empty) Try.underlying23 hj hy0 hy1 rfl .i64 .i64 n (by rw [hy2]; omega) (by omega) W
  rw [made_one] at mB mS
  have eB : (List.replicate n (Value.bool false)).toArray = Array.replicate n (Value.bool false) := by simp
  have eS : (List.replicate n (Value.string ByteArray.empty)).toArray = Array.replicate n (Value.string ByteArray.empty) := by simp
  have hlb : (p.pk.hv.map Value.bool).length = n := by rw [List.length_map, hlh]
  have hls : (p.pk.dt.map Value.string).length = n := by rw [List.length_map, hld]
  obtain ⟨bh, oh, ch, hvh, hbh, hsh⟩ := hh.src (by intro e; rw [e] at hlh; simp at hlh; omega)
  obtain ⟨bd, od, cd, hvd, hbd, hsd⟩ := hd.src (by intro e; rw [e] at hld; simp at hld; omega)
  rw [hlh] at hvh
  rw [hld] at hvd
  have hbh2 : bh < w.heap.size := by omega
  have hbd2 : bd < w.heap.size := by omega
  have HOT := Lib.hid (fun (x : World) g (h : RowAt x g 4 (p.pk.hv.map Value.bool)) (hg : w.heap.size ≤ g) => h.ownT hlh hg hml)
  have HOS := Lib.hid (fun (x : World) g (h : RowAt x g 9 (p.pk.dt.map Value.string)) (hg : w.heap.size ≤ g) => h.ownS hld hg hml)
  have HoneB := Lib.hid (one_bools p.pk.hv)
  have HoneS := Lib.hid (one_strs p.pk.dt)
  obtain ⟨p, vh, vd⟩ := p
  dsimp only at *
  subst hvh hvd
  unfold ptv
  dsimp only
  have HPt := Lib.hid (show ∀ vh vd, (ptv ⟨p, vh, vd⟩) = .agg #[.int .i64 p.src, .int .i64 p.id, .int .i64 p.cnt, .int .i64 p.since, vh, vd] from fun _ _ => rfl)
  have HBox := Lib.hid (show ∀ k (x : World) vh vd, PBox k ⟨p, vh, vd⟩ x ↔ x.heap[k]? = some (.cells #[.int .i64 p.src, .int .i64 p.id, .int .i64 p.cnt, .int .i64 p.since, vh, vd] 44 (0, 0)) from fun _ _ _ _ => Iff.rfl)
  generalize p.hv.map Value.bool = LB at *
  generalize p.dt.map Value.string = LS at *
  clear hh hd hlh hld
  go_enter Try.func37, Try.ntmps37
  go_wp2_with fail
  go_region
  · obtain ⟨W0, hW0⟩ : ∃ W, W = w.alloc (.cells #[.int .i64 p.src, .int .i64 p.id, .int .i64 p.cnt, .int .i64 p.since, .slice (some ⟨bh, oh, none⟩) n ch, .slice (some ⟨bd, od, none⟩) n cd] 44) := ⟨_, rfl⟩
    obtain ⟨W1, hW1⟩ : ∃ W, W = W0.alloc (.cells #[.int .i64 0, .int .i64 0, .int .i64 0, .int .i64 0, .slice none 0 0, .slice none 0 0] 44) := ⟨_, rfl⟩
    obtain ⟨W2, hW2⟩ : ∃ W, W = W1.alloc (.cells (Array.replicate n (Value.bool false)) 4) := ⟨_, rfl⟩
    obtain ⟨W3, hW3⟩ : ∃ W, W = W2.alloc (.cells (Array.replicate n (Value.string ByteArray.empty)) 9) := ⟨_, rfl⟩
    obtain ⟨x, hx⟩ : ∃ x, x = W3.drew := ⟨_, rfl⟩
    rw [← hW0, ← hW1, ← hW2, ← hW3, ← hx]
    have e0 : W0.heap.size = w.heap.size + 1 := by rw [hW0]; exact World.size_alloc ..
    have e1 : W1.heap.size = w.heap.size + 1 + 1 := by rw [hW1, ← e0]; exact World.size_alloc ..
    have e2 : W2.heap.size = w.heap.size + 1 + 1 + 1 := by rw [hW2, ← e1]; exact World.size_alloc ..
    have t0 : Below w.heap.size w W0 := by rw [hW0]; exact below_box _ _
    have t1 : Below W0.heap.size W0 W1 := by rw [hW1]; exact below_box _ _
    have t2 : Below W1.heap.size W1 W2 := by rw [hW2]; exact below_box _ _
    have t3 : Below W2.heap.size W2 W3 := by rw [hW3]; exact below_box _ _
    have t4 : Below W3.heap.size W3 x := by rw [hx]; exact Below.drew' (Below.refl _ _)
    have k3 : Below w.heap.size w x := bt (bt (bt (bt t0 t1) t2) t3) t4
    have hP0 : PBox w.heap.size ⟨p, .slice (some ⟨bh, oh, none⟩) n ch, .slice (some ⟨bd, od, none⟩) n cd⟩ W0 := by rw [hW0]; exact PBox.new w ⟨p, .slice (some ⟨bh, oh, none⟩) n ch, .slice (some ⟨bd, od, none⟩) n cd⟩
    have hP := hP0.below (bt (bt (bt t1 t2) t3) t4) hP0.lt
    have hQ0 : PBox (w.heap.size + 1) noPt W1 := by rw [hW1, ← e0]; exact PBox.new W0 noPt
    have hQ := hQ0.below (bt (bt t2 t3) t4) hQ0.lt
    have hRa0 : RowAt W2 (w.heap.size + 1 + 1) 4 (List.replicate n (Value.bool false)) := by rw [hW2, ← e1, ← eB]; exact RowAt.fresh _ _ _
    have hRa := hRa0.below (bt t3 t4) hRa0.lt
    have hRb0 : RowAt W3 (w.heap.size + 1 + 1 + 1) 9 (List.replicate n (Value.string ByteArray.empty)) := by rw [hW3, ← e2, ← eS]; exact RowAt.fresh _ _ _
    have hRb := hRb0.below t4 hRb0.lt
    have hRB : RowAt x (w.heap.size + 1 + 1) 4 (List.replicate n (Value.bool false)) := hRa
    have hRS : RowAt x (w.heap.size + 1 + 1 + 1) 9 (List.replicate n (Value.string ByteArray.empty)) := hRb
    have q1 : w.heap.size + 1 < w.heap.size + 1 + 1 := by omega
    have q2 : w.heap.size + 1 < w.heap.size + 1 + 1 + 1 := by omega
    have q3 : w.heap.size + 1 + 1 ≠ w.heap.size + 1 + 1 + 1 := by omega
    clear hRa hRb hRa0 hRb0 hP0 hQ0 e0 e1 e2 t0 t1 t2 t3 t4 hW0 hW1 hW2 hW3 hx mB mS eB eS
    generalize hgB : w.heap.size + 1 + 1 + 1 = gS at *
    generalize hgS : w.heap.size + 1 + 1 = gB at *
    clear hgB hgS
    have hs2 : ∀ j u, LS[j]? = some u → (x.setRow gB LB.toArray).cell? ((⟨bd, od, none⟩ : Addr).add j) = some u := fun j u hj => by
      have e := hsd j u hj
      rw [add_off'] at e ⊢
      rw [tch_cell (tch_setRow x gB LB.toArray) (p := ⟨bd, od + j, none⟩) (Nat.lt_of_lt_of_le hbd2 k3.size) (by show bd ≠ gB; omega), k3.cell (p := ⟨bd, od + j, none⟩) hbd2]; exact e
    have hs1 : ∀ j u, LB[j]? = some u → x.cell? ((⟨bh, oh, none⟩ : Addr).add j) = some u := fun j u hj => by
      have e := hsh j u hj
      rw [add_off'] at e ⊢
      rw [k3.cell (p := ⟨bh, oh + j, none⟩) hbh2]; exact e
    have hRB2 := hRB.setRow LB.toArray LB rfl
    have hT1 := tch_setRow x gB LB.toArray
    have hRS2 := hRS.tch hT1 q3.symm
    have hP2 := hP.tch hT1 (by omega)
    have hQ2 := hQ.tch hT1 (by omega)
    have k4 := tch_new k3 hT1 (by omega) (Nat.le_refl _)
    obtain ⟨x2, hx2⟩ : ∃ x2, x2 = x.setRow gB LB.toArray := ⟨_, rfl⟩
    rw [← hx2] at hRB2 hRS2 hP2 hQ2 k4 hs2 hT1
    have hRS3 := hRS2.setRow LS.toArray LS rfl
    have hT2 := tch_setRow x2 gS LS.toArray
    have hRB3 := hRB2.tch hT2 q3
    have hP3 := hP2.tch hT2 (by omega)
    have hQ3 := hQ2.tch hT2 (by omega)
    have k5 := tch_new k4 hT2 (by omega) (Nat.le_refl _)
    obtain ⟨x3, hx3⟩ : ∃ x3, x3 = x2.setRow gS LS.toArray := ⟨_, rfl⟩
    rw [← hx3] at hRS3 hRB3 hP3 hQ3 k5 hT2
    have HX2 := Lib.hid hx2
    have HX3 := Lib.hid hx3
    have HRB := Lib.hid hRB
    have HRS2 := Lib.hid hRS2
    have Hs1 := Lib.hid hs1
    have Hs2 := Lib.hid hs2
    have Hlb := Lib.hid hlb
    have Hls := Lib.hid hls
    obtain ⟨-, a0, a1, a2, a3, a4, a5⟩ := hP.six ⟨⟨_, _, _, rfl⟩, _, _, _, rfl⟩
    obtain ⟨-, b0, b1, b2, b3, b4, b5⟩ := hP2.six ⟨⟨_, _, _, rfl⟩, _, _, _, rfl⟩
    obtain ⟨-, c0, c1, c2, c3, c4, c5⟩ := hP3.six ⟨⟨_, _, _, rfl⟩, _, _, _, rfl⟩
    obtain ⟨-, d0, d1, d2, d3, d4, d5⟩ := hQ3.six noPt_shp
    have f4 := hP3.f 4
    have f5 := hP3.f 5
    have g0 := hQ3.f 0
    have g1 := hQ3.f 1
    have g2 := hQ3.f 2
    have g3 := hQ3.f 3
    have g4 := hQ3.f 4
    have g5 := hQ3.f 5
    dsimp only [Nat.zero_add] at a0 a1 a2 a3 a4 a5 b0 b1 b2 b3 b4 b5 c0 c1 c2 c3 c4 c5 d0 d1 d2 d3 d4 d5
    have HP3 := Lib.hid hP3
    have HQ3 := Lib.hid hQ3
    have K5 := Lib.hid k5
    have HR3 := Lib.hid (And.intro hRB3 hRS3)
    have Q12 := Lib.hid (And.intro q1 (And.intro q2 q3))
    clear hs1 hs2 hRB hRS hRB2 hRS2 hP hP2 hQ hQ2 hT1 hT2 k3 k4 k5 hx2 hx3 hP3 hQ3 hRB3 hRS3 hlb hls hsh hsd q1 q2 q3
    go_wp2_with (first
      | (refine wpList_copy_own rfl (.tmp 13) (.tmp 15) 38 38 rfl 4 Try.underlying38 (by kernel_rfl) gB 0 n n ⟨bh, oh, none⟩ n ch rfl rfl _ _ HRB.out LB (by rw [Hlb.out]; exact (Nat.min_self n).symm) Hs1.out (by rw [Hlb.out]; simp) HoneB.out ?_; rw [copied (by rw [Hlb.out]; simp), ← HX2.out])
      | (refine wpList_copy_own rfl (.tmp 17) (.tmp 19) 23 23 rfl 9 Try.underlying23 (by kernel_rfl) gS 0 n n ⟨bd, od, none⟩ n cd rfl rfl _ _ HRS2.out LS (by rw [Hls.out]; exact (Nat.min_self n).symm) Hs2.out (by rw [Hls.out]; simp) HoneS.out ?_; rw [copied (by rw [Hls.out]; simp), ← HX3.out]))
    have T4 : Tch w.heap.size x3 ((x3.setCell ⟨w.heap.size, 4, none⟩ (.slice (some ⟨gB, 0, none⟩) n n)).setCell ⟨w.heap.size, 5, none⟩ (.slice (some ⟨gS, 0, none⟩) n n)) := ((Tch.refl _ _).setCell 4 _).setCell 5 _
    have hQ4 := HQ3.out.tch T4 (by omega)
    have hQ5 := hQ4.fill ⟨p, .slice (some ⟨gB, 0, none⟩) n n, .slice (some ⟨gS, 0, none⟩) n n⟩
    have T5 := tch_fill ((x3.setCell ⟨w.heap.size, 4, none⟩ (.slice (some ⟨gB, 0, none⟩) n n)).setCell ⟨w.heap.size, 5, none⟩ (.slice (some ⟨gS, 0, none⟩) n n)) (w.heap.size + 1) (.int .i64 p.src) (.int .i64 p.id) (.int .i64 p.cnt) (.int .i64 p.since) (.slice (some ⟨gB, 0, none⟩) n n) (.slice (some ⟨gS, 0, none⟩) n n)
    obtain ⟨-, z0, z1, z2, z3, z4, z5⟩ := hQ5.six ⟨⟨_, _, _, rfl⟩, _, _, _, rfl⟩
    dsimp only [Nat.zero_add] at z0 z1 z2 z3 z4 z5
    obtain ⟨q1, q2, q3⟩ := Q12.out
    have hT := HOT.out _ gB ((HR3.out.1.tch T4 (by omega)).tch T5 (by omega)) (by omega)
    have hS := HOS.out _ gS ((HR3.out.2.tch T4 (by omega)).tch T5 (by omega)) (by omega)
    have kz := tch_new (tch_new K5.out T4 (Nat.le_refl _) (Nat.le_refl _)) T5 (by omega) (Nat.le_refl _)
    refine bodyPost_ret (v := .agg #[.int .i64 p.src, .int .i64 p.id, .int .i64 p.cnt, .int .i64 p.since, .slice (some ⟨gB, 0, none⟩) n n, .slice (some ⟨gS, 0, none⟩) n n]) ?_ rfl ⟨_, _, rfl, hT, hS, kz⟩
    simp [results, Try.results37, go_sem, z0, z1, z2, z3, z4, z5]
  · obtain ⟨W0, hW0⟩ : ∃ W, W = w.alloc (.cells #[.int .i64 p.src, .int .i64 p.id, .int .i64 p.cnt, .int .i64 p.since, .slice (some ⟨bh, oh, none⟩) n ch, .slice (some ⟨bd, od, none⟩) n cd] 44) := ⟨_, rfl⟩
    obtain ⟨W1, hW1⟩ : ∃ W, W = W0.alloc (.cells #[.int .i64 0, .int .i64 0, .int .i64 0, .int .i64 0, .slice none 0 0, .slice none 0 0] 44) := ⟨_, rfl⟩
    obtain ⟨W2, hW2⟩ : ∃ W, W = W1.alloc (.cells (Array.replicate n (Value.string ByteArray.empty)) 9) := ⟨_, rfl⟩
    obtain ⟨W3, hW3⟩ : ∃ W, W = W2.alloc (.cells (Array.replicate n (Value.bool false)) 4) := ⟨_, rfl⟩
    obtain ⟨x, hx⟩ : ∃ x, x = W3.drew := ⟨_, rfl⟩
    rw [← hW0, ← hW1, ← hW2, ← hW3, ← hx]
    have e0 : W0.heap.size = w.heap.size + 1 := by rw [hW0]; exact World.size_alloc ..
    have e1 : W1.heap.size = w.heap.size + 1 + 1 := by rw [hW1, ← e0]; exact World.size_alloc ..
    have e2 : W2.heap.size = w.heap.size + 1 + 1 + 1 := by rw [hW2, ← e1]; exact World.size_alloc ..
    have t0 : Below w.heap.size w W0 := by rw [hW0]; exact below_box _ _
    have t1 : Below W0.heap.size W0 W1 := by rw [hW1]; exact below_box _ _
    have t2 : Below W1.heap.size W1 W2 := by rw [hW2]; exact below_box _ _
    have t3 : Below W2.heap.size W2 W3 := by rw [hW3]; exact below_box _ _
    have t4 : Below W3.heap.size W3 x := by rw [hx]; exact Below.drew' (Below.refl _ _)
    have k3 : Below w.heap.size w x := bt (bt (bt (bt t0 t1) t2) t3) t4
    have hP0 : PBox w.heap.size ⟨p, .slice (some ⟨bh, oh, none⟩) n ch, .slice (some ⟨bd, od, none⟩) n cd⟩ W0 := by rw [hW0]; exact PBox.new w ⟨p, .slice (some ⟨bh, oh, none⟩) n ch, .slice (some ⟨bd, od, none⟩) n cd⟩
    have hP := hP0.below (bt (bt (bt t1 t2) t3) t4) hP0.lt
    have hQ0 : PBox (w.heap.size + 1) noPt W1 := by rw [hW1, ← e0]; exact PBox.new W0 noPt
    have hQ := hQ0.below (bt (bt t2 t3) t4) hQ0.lt
    have hRa0 : RowAt W2 (w.heap.size + 1 + 1) 9 (List.replicate n (Value.string ByteArray.empty)) := by rw [hW2, ← e1, ← eS]; exact RowAt.fresh _ _ _
    have hRa := hRa0.below (bt t3 t4) hRa0.lt
    have hRb0 : RowAt W3 (w.heap.size + 1 + 1 + 1) 4 (List.replicate n (Value.bool false)) := by rw [hW3, ← e2, ← eB]; exact RowAt.fresh _ _ _
    have hRb := hRb0.below t4 hRb0.lt
    have hRB : RowAt x (w.heap.size + 1 + 1 + 1) 4 (List.replicate n (Value.bool false)) := hRb
    have hRS : RowAt x (w.heap.size + 1 + 1) 9 (List.replicate n (Value.string ByteArray.empty)) := hRa
    have q1 : w.heap.size + 1 < w.heap.size + 1 + 1 + 1 := by omega
    have q2 : w.heap.size + 1 < w.heap.size + 1 + 1 := by omega
    have q3 : w.heap.size + 1 + 1 + 1 ≠ w.heap.size + 1 + 1 := by omega
    clear hRa hRb hRa0 hRb0 hP0 hQ0 e0 e1 e2 t0 t1 t2 t3 t4 hW0 hW1 hW2 hW3 hx mB mS eB eS
    generalize hgB : w.heap.size + 1 + 1 + 1 = gB at *
    generalize hgS : w.heap.size + 1 + 1 = gS at *
    clear hgB hgS
    have hs2 : ∀ j u, LS[j]? = some u → (x.setRow gB LB.toArray).cell? ((⟨bd, od, none⟩ : Addr).add j) = some u := fun j u hj => by
      have e := hsd j u hj
      rw [add_off'] at e ⊢
      rw [tch_cell (tch_setRow x gB LB.toArray) (p := ⟨bd, od + j, none⟩) (Nat.lt_of_lt_of_le hbd2 k3.size) (by show bd ≠ gB; omega), k3.cell (p := ⟨bd, od + j, none⟩) hbd2]; exact e
    have hs1 : ∀ j u, LB[j]? = some u → x.cell? ((⟨bh, oh, none⟩ : Addr).add j) = some u := fun j u hj => by
      have e := hsh j u hj
      rw [add_off'] at e ⊢
      rw [k3.cell (p := ⟨bh, oh + j, none⟩) hbh2]; exact e
    have hRB2 := hRB.setRow LB.toArray LB rfl
    have hT1 := tch_setRow x gB LB.toArray
    have hRS2 := hRS.tch hT1 q3.symm
    have hP2 := hP.tch hT1 (by omega)
    have hQ2 := hQ.tch hT1 (by omega)
    have k4 := tch_new k3 hT1 (by omega) (Nat.le_refl _)
    obtain ⟨x2, hx2⟩ : ∃ x2, x2 = x.setRow gB LB.toArray := ⟨_, rfl⟩
    rw [← hx2] at hRB2 hRS2 hP2 hQ2 k4 hs2 hT1
    have hRS3 := hRS2.setRow LS.toArray LS rfl
    have hT2 := tch_setRow x2 gS LS.toArray
    have hRB3 := hRB2.tch hT2 q3
    have hP3 := hP2.tch hT2 (by omega)
    have hQ3 := hQ2.tch hT2 (by omega)
    have k5 := tch_new k4 hT2 (by omega) (Nat.le_refl _)
    obtain ⟨x3, hx3⟩ : ∃ x3, x3 = x2.setRow gS LS.toArray := ⟨_, rfl⟩
    rw [← hx3] at hRS3 hRB3 hP3 hQ3 k5 hT2
    have HX2 := Lib.hid hx2
    have HX3 := Lib.hid hx3
    have HRB := Lib.hid hRB
    have HRS2 := Lib.hid hRS2
    have Hs1 := Lib.hid hs1
    have Hs2 := Lib.hid hs2
    have Hlb := Lib.hid hlb
    have Hls := Lib.hid hls
    obtain ⟨-, a0, a1, a2, a3, a4, a5⟩ := hP.six ⟨⟨_, _, _, rfl⟩, _, _, _, rfl⟩
    obtain ⟨-, b0, b1, b2, b3, b4, b5⟩ := hP2.six ⟨⟨_, _, _, rfl⟩, _, _, _, rfl⟩
    obtain ⟨-, c0, c1, c2, c3, c4, c5⟩ := hP3.six ⟨⟨_, _, _, rfl⟩, _, _, _, rfl⟩
    obtain ⟨-, d0, d1, d2, d3, d4, d5⟩ := hQ3.six noPt_shp
    have f4 := hP3.f 4
    have f5 := hP3.f 5
    have g0 := hQ3.f 0
    have g1 := hQ3.f 1
    have g2 := hQ3.f 2
    have g3 := hQ3.f 3
    have g4 := hQ3.f 4
    have g5 := hQ3.f 5
    dsimp only [Nat.zero_add] at a0 a1 a2 a3 a4 a5 b0 b1 b2 b3 b4 b5 c0 c1 c2 c3 c4 c5 d0 d1 d2 d3 d4 d5
    have HP3 := Lib.hid hP3
    have HQ3 := Lib.hid hQ3
    have K5 := Lib.hid k5
    have HR3 := Lib.hid (And.intro hRB3 hRS3)
    have Q12 := Lib.hid (And.intro q1 (And.intro q2 q3))
    clear hs1 hs2 hRB hRS hRB2 hRS2 hP hP2 hQ hQ2 hT1 hT2 k3 k4 k5 hx2 hx3 hP3 hQ3 hRB3 hRS3 hlb hls hsh hsd q1 q2 q3
    go_wp2_with (first
      | (refine wpList_copy_own rfl (.tmp 13) (.tmp 15) 38 38 rfl 4 Try.underlying38 (by kernel_rfl) gB 0 n n ⟨bh, oh, none⟩ n ch rfl rfl _ _ HRB.out LB (by rw [Hlb.out]; exact (Nat.min_self n).symm) Hs1.out (by rw [Hlb.out]; simp) HoneB.out ?_; rw [copied (by rw [Hlb.out]; simp), ← HX2.out])
      | (refine wpList_copy_own rfl (.tmp 17) (.tmp 19) 23 23 rfl 9 Try.underlying23 (by kernel_rfl) gS 0 n n ⟨bd, od, none⟩ n cd rfl rfl _ _ HRS2.out LS (by rw [Hls.out]; exact (Nat.min_self n).symm) Hs2.out (by rw [Hls.out]; simp) HoneS.out ?_; rw [copied (by rw [Hls.out]; simp), ← HX3.out]))
    have T4 : Tch w.heap.size x3 ((x3.setCell ⟨w.heap.size, 4, none⟩ (.slice (some ⟨gB, 0, none⟩) n n)).setCell ⟨w.heap.size, 5, none⟩ (.slice (some ⟨gS, 0, none⟩) n n)) := ((Tch.refl _ _).setCell 4 _).setCell 5 _
    have hQ4 := HQ3.out.tch T4 (by omega)
    have hQ5 := hQ4.fill ⟨p, .slice (some ⟨gB, 0, none⟩) n n, .slice (some ⟨gS, 0, none⟩) n n⟩
    have T5 := tch_fill ((x3.setCell ⟨w.heap.size, 4, none⟩ (.slice (some ⟨gB, 0, none⟩) n n)).setCell ⟨w.heap.size, 5, none⟩ (.slice (some ⟨gS, 0, none⟩) n n)) (w.heap.size + 1) (.int .i64 p.src) (.int .i64 p.id) (.int .i64 p.cnt) (.int .i64 p.since) (.slice (some ⟨gB, 0, none⟩) n n) (.slice (some ⟨gS, 0, none⟩) n n)
    obtain ⟨-, z0, z1, z2, z3, z4, z5⟩ := hQ5.six ⟨⟨_, _, _, rfl⟩, _, _, _, rfl⟩
    dsimp only [Nat.zero_add] at z0 z1 z2 z3 z4 z5
    obtain ⟨q1, q2, q3⟩ := Q12.out
    have hT := HOT.out _ gB ((HR3.out.1.tch T4 (by omega)).tch T5 (by omega)) (by omega)
    have hS := HOS.out _ gS ((HR3.out.2.tch T4 (by omega)).tch T5 (by omega)) (by omega)
    have kz := tch_new (tch_new K5.out T4 (Nat.le_refl _) (Nat.le_refl _)) T5 (by omega) (Nat.le_refl _)
    refine bodyPost_ret (v := .agg #[.int .i64 p.src, .int .i64 p.id, .int .i64 p.cnt, .int .i64 p.since, .slice (some ⟨gB, 0, none⟩) n n, .slice (some ⟨gS, 0, none⟩) n n]) ?_ rfl ⟨_, _, rfl, hT, hS, kz⟩
    simp [results, Try.results37, go_sem, z0, z1, z2, z3, z4, z5]
end Go.Proofs.Ytmjamjadfnbkdaa
