/-
  Fragments: the walk of what leaves an entry out, the program's.
-/
import Derived.Test.YtmjamjadfnbkdaaFrl
open Go Go.RowKit Go.Proofs
namespace Go.Proofs.Ytmjamjadfnbkdaa
namespace Hub
theorem SixAt.cell {w : World} {b o : Nat} {p : Pt} (h : SixAt w b o p) (j : Nat) (hj : j < 6) : w.cell? ⟨b, o + j, none⟩ = (pcells p)[j]? := by
  obtain ⟨_, h0, h1, h2, h3, h4, h5⟩ := h
  match j, hj with
  | 0, _ => exact h0
  | 1, _ => exact h1
  | 2, _ => exact h2
  | 3, _ => exact h3
  | 4, _ => exact h4
  | 5, _ => exact h5
theorem rows_src {w : World} {b off : Nat} {l : List Pt} (h : ∀ i (hi : i < l.length), SixAt w b (off + i * 6) l[i]) : ∀ j u, (l.flatMap pcells)[j]? = some u → w.cell? ((⟨b, off, none⟩ : Addr).add j) = some u := by
  intro j u hj
  have hlt : j < l.length * 6 := by
    rw [← pcells_len l]; exact (List.getElem?_eq_some_iff.1 hj).1
  rw [add_off']
  have hq : j / 6 < l.length := by omega
  have e : j = j / 6 * 6 + j % 6 := by omega
  have h1 := (h (j / 6) hq).cell (j % 6) (by omega)
  rw [Nat.add_assoc, ← e] at h1
  rw [h1]
  rw [e, pcells_at l (j / 6) (j % 6) hq (by omega)] at hj
  exact hj
theorem rows_one {l : List Pt} (h : ∀ p ∈ l, Shp p) : ∀ u ∈ l.flatMap pcells, u.oneCell' = true := by
  intro u hu
  obtain ⟨p, hp, hu⟩ := List.mem_flatMap.1 hu
  exact one6 p (h p hp) u hu
theorem made_parts (i0 : TypeInfo) (hi : Try.prog.info? 44 = some i0) (hz0 : i0.zero = some (.agg #[.int .i64 0, .int .i64 0, .int .i64 0, .int .i64 0, .slice none 0 0, .slice none 0 0])) (hz1 : i0.size = 6) (hz2 : i0.bytes = 80) (n : Nat) (hn : n ≤ 1000) (W : World) :
    ∃ cur : Array Value, cur.size = n * 6 ∧ (Instr.makeSlice 31 (.int .i64 0) (.int .i64 (n : Int))).run Try.prog W = .ok (.slice (some ⟨W.heap.size, 0, none⟩) 0 n) (W.alloc (.cells cur 44)) := by
  have h := run_make (P := Try.prog) W 31 44 i0 _ Try.underlying31 hi hz0 .i64 .i64 0 (n : Int) (Int.le_refl _) (by omega) (by rw [hz2]; omega) (by omega)
  simp only [Int.toNat_natCast, Int.toNat_zero, hz1] at h
  exact ⟨_, size_madeCells _ _, h⟩
theorem erase_step (l : List Pt) (i k : Nat) (h : k < l.length) : (l.take (k + 1)).eraseIdx i = if k = i then (l.take k).eraseIdx i else (l.take k).eraseIdx i ++ [l[k]] := by
  rw [List.take_succ_eq_append_getElem h]
  by_cases e : k = i
  · subst e
    rw [if_pos rfl, List.eraseIdx_append_of_length_le (by rw [List.length_take]; omega), List.length_take, Nat.min_eq_left (by omega), Nat.sub_self, List.eraseIdx_cons_zero, List.append_nil, List.eraseIdx_of_length_le (by rw [List.length_take]; omega)]
  · rw [if_neg e]
    by_cases e2 : i < k
    · rw [List.eraseIdx_append_of_lt_length (by rw [List.length_take]; omega)]
    · rw [List.eraseIdx_append_of_length_le (by rw [List.length_take]; omega), List.eraseIdx_of_length_le (l := l.take k) (by rw [List.length_take]; omega)]
      congr 1
      rw [List.eraseIdx_of_length_le]
      rw [List.length_take, List.length_singleton]; omega
theorem map_erase (l : List Pt) (i : Nat) : (l.eraseIdx i).map Pt.pk = (l.map Pt.pk).eraseIdx i := by
  rw [List.eraseIdx_eq_take_drop_succ, List.eraseIdx_eq_take_drop_succ, List.map_append, List.map_take, List.map_drop]
end Hub
open Hub

set_option maxHeartbeats 2000000 in
theorem without_any (v : Value) (l : List Pt) (i base : Nat) (w : World) (hQ : OwnQ w base v l) (hE : Ents w base l) (hi : i < l.length) (hl : l.length ≤ 1000) (hB : base ≤ w.heap.size) :
    Calls Try.prog 27 #[v, .int .i64 i] w fun e w' => ∃ u, e = .returned u ∧ OwnP w' base u (l.eraseIdx i) ∧ Ents w' base (l.eraseIdx i) ∧ Below w.heap.size w w' := by
  obtain ⟨i0, hi0, hz0, hz1, hz2⟩ := info_parts pt_info
  have hshp := hE.shp
  obtain ⟨a, cap, rfl, hcap, hc⟩ := hQ.rows hshp
  obtain ⟨b, off, rfl, _, hbN, hcell⟩ := hc (by intro e; rw [e] at hi; simp at hi)
  obtain ⟨n, hn⟩ : ∃ n, l.length = n := ⟨_, rfl⟩
  rw [hn] at hi hl hcap ⊢
  have HTk := Lib.hid (fun w' (k : Below w.heap.size w w') => rows_src (w := w') (b := b) (off := off) (l := l.take i) (fun q hq => by
    have hq2 : q < i := by rw [List.length_take] at hq; omega
    rw [List.getElem_take]
    exact (hcell q (by omega)).below k hbN))
  have HDr := Lib.hid (fun w' (k : Below w.heap.size w w') => rows_src (w := w') (b := b) (off := off + (i + 1) * 6) (l := l.drop (i + 1)) (fun q hq => by
    have hq2 : i + 1 + q < l.length := by rw [List.length_drop] at hq; omega
    rw [List.getElem_drop, show off + (i + 1) * 6 + q * 6 = off + (i + 1 + q) * 6 by omega]
    exact (hcell (i + 1 + q) hq2).below k hbN))
  have HLt := Lib.hid (show ((l.take i).flatMap pcells).length = i * 6 by rw [pcells_len, List.length_take, Nat.min_eq_left (by omega)])
  have HLd := Lib.hid (show ((l.drop (i + 1)).flatMap pcells).length = (n - (i + 1)) * 6 by rw [pcells_len, List.length_drop, hn])
  have HOt := Lib.hid (rows_one (l := l.take i) (fun p hp => hshp p (List.mem_of_mem_take hp)))
  have HOd := Lib.hid (rows_one (l := l.drop (i + 1)) (fun p hp => hshp p (List.mem_of_mem_drop hp)))
  have HEr := Lib.hid (show (l.take i).flatMap pcells ++ (l.drop (i + 1)).flatMap pcells = (l.eraseIdx i).flatMap pcells by rw [List.eraseIdx_eq_take_drop_succ, List.flatMap_append])
  have HEl := Lib.hid (show (l.eraseIdx i).length = i + (n - (i + 1)) by rw [List.length_eraseIdx, hn, if_pos hi]; omega)
  have HSub := Lib.hid (fun w' (k : Below w.heap.size w w') => (hE.below k (Nat.le_refl _)).sub (List.eraseIdx_sublist (l := l) (k := i)))
  obtain ⟨cur, hcs, hmk⟩ := made_parts i0 hi0 hz0 hz1 hz2 n hl w
  have hile : (i : Int) ≤ (cap : Int) := by omega
  have hile2 : (i : Int) + 1 ≤ (n : Int) := by omega
  have hncap : (n : Int) ≤ (cap : Int) := by omega
  have hO0 : OwnP (w.alloc (.cells cur 44)) w.heap.size (.slice (some ⟨w.heap.size, 0, none⟩) 0 n) [] := World.ownsRow_made w cur n (Nat.le_refl _) (by unfold maxLen; omega) hcs
  have HO0 := Lib.hid hO0
  have k0 := below_box w (.cells cur 44)
  have HK0 := Lib.hid k0
  have Hi := Lib.hid (And.intro hi hl)
  have HB := Lib.hid hB
  have hw1 : wrap64 ((i : Int) + 1) = (i : Int) + 1 := IntWalk.wrap64_in _ ⟨by omega, by omega⟩
  clear hQ hE hshp hc hcell hn hcs hO0 k0 hB hcap hi hl
  go_enter Try.func27, Try.ntmps27
  go_wp2_with (at_builtin; refine wpList_append_own _ rfl _ _ 31 rfl w.heap.size 44 i0 (.agg #[.int .i64 0, .int .i64 0, .int .i64 0, .int .i64 0, .slice none 0 0, .slice none 0 0]) 6 80 Try.underlying31 hi0 hz0 hz1 hz2 rfl (by decide) _ _ _ rfl HO0.out ⟨b, off, none⟩ i cap ((l.take i).flatMap pcells) rfl HLt.out (HTk.out _ HK0.out) HOt.out ?c3 ?c4 ?c5 ?_)
  try case c3 => clear hw1; have := Hi.out; unfold maxLen; rw [List.length_nil]; omega
  try case c4 => clear hw1; have := Hi.out; rw [List.length_nil]; omega
  try case c5 => clear hw1; simp
  intro v1 w4 hown1 hgrow1 _
  have hk1 := HK0.out.grown hgrow1 (by simp) (fun g hg => by have e : w.heap.size = g := Option.some.inj hg; omega)
  have HR1 := Lib.hid hown1
  have HK1 := Lib.hid hk1
  clear hown1 hgrow1 hk1
  by_cases hcc : cap = i + 1
  · obtain rfl : n = i + 1 := by have := Hi.out; clear hw1; omega
    subst hcc
    have Hd0 := Lib.hid (show (l.drop (i + 1)).flatMap pcells = [] by rw [List.drop_eq_nil_of_le (by have := HLd.out; rw [pcells_len, List.length_drop] at this; omega)]; rfl)
    go_wp2_with (at_builtin; refine wpList_append_own _ rfl _ _ 31 rfl w.heap.size 44 i0 (.agg #[.int .i64 0, .int .i64 0, .int .i64 0, .int .i64 0, .slice none 0 0, .slice none 0 0]) 6 80 Try.underlying31 hi0 hz0 hz1 hz2 rfl (by decide) _ _ _ rfl HR1.out ⟨b, off, none⟩ 0 0 [] rfl rfl (by intro j u hj; simp at hj) (by intro u hu; simp at hu) ?d3 ?d4 ?d5 ?_)
    try case d3 => clear hw1; have := Hi.out; unfold maxLen; omega
    try case d4 => clear hw1; have := Hi.out; omega
    try case d5 => clear hw1; exact HK1.out.size
    intro v2 w6 hown2 hgrow2 _
    have hk2 := HK1.out.grown hgrow2 HK1.out.size (fun g hg => (World.ownsRow.lt HR1.out g hg).1)
    have hP2 : OwnP w6 w.heap.size v2 (l.eraseIdx i) := by
      unfold OwnP
      rw [HEl.out, ← HEr.out, Hd0.out]; simpa using hown2
    have HP2 := Lib.hid hP2
    have HK2 := Lib.hid hk2
    clear hown2 hgrow2 hk2 hP2
    go_wp2_with fail
    go_ret
    exact ⟨_, rfl, HP2.out.base HB.out, HSub.out _ HK2.out, HK2.out⟩
  · have hcc2 : ¬ cap - (i + 1) = 0 := by clear hw1; omega
    go_wp2_with (at_builtin; refine wpList_append_own _ rfl _ _ 31 rfl w.heap.size 44 i0 (.agg #[.int .i64 0, .int .i64 0, .int .i64 0, .int .i64 0, .slice none 0 0, .slice none 0 0]) 6 80 Try.underlying31 hi0 hz0 hz1 hz2 rfl (by decide) _ _ _ rfl HR1.out ⟨b, off + (i + 1) * 6, none⟩ (n - (i + 1)) (cap - (i + 1)) ((l.drop (i + 1)).flatMap pcells) rfl HLd.out (HDr.out _ HK1.out) HOd.out ?d3 ?d4 ?d5 ?_)
    try case d3 => clear hw1; have := Hi.out; unfold maxLen; omega
    try case d4 => clear hw1; have := Hi.out; omega
    try case d5 => clear hw1; exact HK1.out.size
    intro v2 w6 hown2 hgrow2 _
    have hk2 := HK1.out.grown hgrow2 HK1.out.size (fun g hg => (World.ownsRow.lt HR1.out g hg).1)
    have hP2 : OwnP w6 w.heap.size v2 (l.eraseIdx i) := by
      unfold OwnP
      rw [HEl.out, ← HEr.out]; exact hown2
    have HP2 := Lib.hid hP2
    have HK2 := Lib.hid hk2
    clear hown2 hgrow2 hk2 hP2
    go_wp2_with fail
    go_ret
    exact ⟨_, rfl, HP2.out.base HB.out, HSub.out _ HK2.out, HK2.out⟩
end Go.Proofs.Ytmjamjadfnbkdaa
