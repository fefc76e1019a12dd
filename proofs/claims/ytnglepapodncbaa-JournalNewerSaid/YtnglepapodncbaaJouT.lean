/-
  The walks of what begins a journal's next generation, the program's and the reference's, where nothing is too long.
-/
import Derived.Test.YtnglepapodncbaaJouR
import Derived.Test.YtnglepapodncbaaJoi
open Go Go.RowKit Go.Proofs
namespace Go.Proofs.Ytnglepapodncbaa
namespace Hub
def compactJ (j : List UInt8) (l : List (List UInt8)) : List UInt8 × Int :=
  if (topJ j).2.2 ≠ 0 then ([], (topJ j).2.2) else if (headJ ((topJ j).1 + 1)).2 ≠ 0 then ([], (headJ ((topJ j).1 + 1)).2) else ((headJ ((topJ j).1 + 1)).1 ++ recsJ l 0, 0)
/-- The header and the first k records, one by one. -/
def partsJ (h : List UInt8) (l : List ByteArray) (k : Nat) : List ByteArray := mk h :: (List.range k).map fun i => mk (recJ (bl (l.getD i ByteArray.empty)) i)
theorem partsJ_succ (h : List UInt8) (l : List ByteArray) (k : Nat) : partsJ h l (k + 1) = partsJ h l k ++ [mk (recJ (bl (l.getD k ByteArray.empty)) k)] := by
  rw [partsJ, List.range_succ, List.map_append]; rfl
theorem partsJ_length (h : List UInt8) (l : List ByteArray) (k : Nat) : (partsJ h l k).length = k + 1 := by simp [partsJ]
theorem recs_succ (L : List (List UInt8)) (k : Nat) (hk : k < L.length) : recsJ (L.take (k + 1)) 0 = recsJ (L.take k) 0 ++ recJ L[k] k := by
  rw [List.take_succ_eq_append_getElem hk, recsJ_append, List.length_take, Nat.zero_add, Nat.min_eq_left (by omega)]
  simp [recsJ]
theorem partsJ_flat (h : List UInt8) (l : List ByteArray) : ∀ k, k ≤ l.length → flat (partsJ h l k) = h ++ recsJ ((l.map bl).take k) 0 := by
  intro k
  induction k with
  | zero => intro _; simp [partsJ, flat, recsJ, bl_mk]
  | succ k ih =>
    intro hk
    have hkl : k < l.length := by omega
    have hg : l.getD k ByteArray.empty = l[k] := by rw [List.getD_eq_getElem?_getD, List.getElem?_eq_getElem hkl]; rfl
    have he : flat (partsJ h l k ++ [mk (recJ (bl l[k]) k)]) = flat (partsJ h l k) ++ recJ (bl l[k]) k := by
      simp [flat, List.flatMap_append, bl_mk]
    rw [partsJ_succ, hg, he, ih (by omega), recs_succ _ k (by rw [List.length_map]; exact hkl), List.append_assoc]
    simp
def lenJ (h : List UInt8) (l : List ByteArray) (k : Nat) : Nat := (h ++ recsJ ((l.map bl).take k) 0).length
theorem OwnS.lit1 (w : World) (x : ByteArray) (base : Nat) (hb : base ≤ w.heap.size) : OwnS (w.alloc (.cells #[.string x] 9)) base (.slice (some ⟨w.heap.size, 0, none⟩) 1 1) [x] :=
  ⟨rfl, .inr ⟨w.heap.size, 1, #[.string x], rfl, hb, heap_alloc_new w _, Nat.le_refl _, by unfold maxLen; omega, rfl, rfl⟩⟩
def greatL (l : List ByteArray) : Bool := decide (40 < l.length) || l.any (fun x => decide (5000 < x.size))
theorem greatL_no {l : List ByteArray} (h : greatL l = false) : l.length ≤ 40 ∧ ∀ x ∈ l, x.size ≤ 5000 := by
  simp [greatL] at h
  exact ⟨by omega, h.2⟩
theorem greatL_of {l : List ByteArray} (h1 : l.length ≤ 40) (h2 : ∀ x ∈ l, x.size ≤ 5000) : greatL l = false := by
  simp [greatL]; exact ⟨h1, h2⟩
theorem greatL_len {l : List ByteArray} (h1 : 40 < l.length) : greatL l = true := by simp [greatL, h1]
theorem greatL_big {l : List ByteArray} {x : ByteArray} (h1 : x ∈ l) (h2 : 5000 < x.size) : greatL l = true := by
  simp [greatL]; exact .inr ⟨x, h1, h2⟩
theorem topJ_gen (j : List UInt8) : 0 ≤ (topJ j).1 ∧ (topJ j).1 ≤ 1099511627776 := by
  rw [topJ]
  split
  · exact ⟨by show (0 : Int) ≤ 0; omega, by show (0 : Int) ≤ 1099511627776; omega⟩
  · split
    · exact ⟨by show (0 : Int) ≤ 0; omega, by show (0 : Int) ≤ 1099511627776; omega⟩
    · split
      · exact ⟨by show (0 : Int) ≤ 0; omega, by show (0 : Int) ≤ 1099511627776; omega⟩
      · split
        · exact ⟨by show (0 : Int) ≤ 0; omega, by show (0 : Int) ≤ 1099511627776; omega⟩
        · split
          · exact ⟨by show (0 : Int) ≤ 0; omega, by show (0 : Int) ≤ 1099511627776; omega⟩
          · simp only; omega
theorem headJ_len (g : Int) : (headJ g).1.length ≤ 13 := by
  rw [headJ]; split
  · simp
  · have := enc_length g (by omega) (by omega)
    rw [List.length_append]; show 3 + _ ≤ 13; omega
end Hub
open Hub

theorem great_any (v : Value) (l : List ByteArray) (lo N : Nat) (w : World) (hv : StrsAt lo N w v l) (hl : l.length ≤ maxLen) :
    Calls Try.prog 25 #[v] w fun e w' => e = .returned (.bool (greatL l)) ∧ w = w' := by
  have HV := Lib.hid hv
  obtain ⟨a, cap, rfl, hcap, -⟩ := hv
  obtain ⟨n, hn⟩ : ∃ n, l.length = n := ⟨_, rfl⟩
  rw [hn] at hcap hl HV ⊢
  have hli : (n : Int) ≤ 9223372036854775807 := by unfold maxLen at hl; omega
  go_enter Try.func25, Try.ntmps25
  go_wp2
  go_loop [3] (fun i => ∃ k : Nat, k ≤ n ∧ i = .int .i64 k ∧ ∀ j (hj : j < l.length), j < k → l[j].size ≤ 5000) (fun i => n - (intOf i).toNat)
  case atStart => exact ⟨0, Nat.zero_le _, rfl, fun j _ h => by omega⟩
  case round =>
    obtain ⟨k, hk, rfl, hall⟩ := hrel
    by_cases g40 : 40 < n
    · have g40i : (40 : Int) < (n : Int) := by omega
      have HG := Lib.hid (greatL_len (l := l) (by omega))
      by_cases hlt : k < n
      · have hki : (k : Int) < (n : Int) := by omega
        clear hall
        go_wp2
        go_ret
        exact ⟨by rw [HG.out]; rfl, rfl⟩
      · have hki : ¬ (k : Int) < (n : Int) := by omega
        clear hall
        go_wp2
        go_ret
        exact ⟨by rw [HG.out]; rfl, rfl⟩
    · have g40i : ¬ (40 : Int) < (n : Int) := by omega
      by_cases hlt : k < n
      · have hkl : k < l.length := by omega
        have hki : (k : Int) < (n : Int) := by omega
        obtain ⟨bk, off, rfl, hbk, hcl⟩ := HV.out.get k hkl
        have HA := Lib.hid (fun (e : l[k].size ≤ 5000) j (hj : j < l.length) (hjk : j < k + 1) => (show l[j].size ≤ 5000 from by
          by_cases e2 : j = k
          · subst e2; exact e
          · exact hall j hj (by omega)))
        have HB := Lib.hid (show 5000 < l[k].size → greatL l = true from fun h5 => greatL_big (List.getElem_mem hkl) h5)
        clear hall
        generalize l[k] = x at *
        by_cases hbig : 5000 < x.size
        · have hbi : (5000 : Int) < (x.size : Int) := by omega
          have HG := Lib.hid (HB.out hbig)
          clear HA HB
          go_wp2
          go_ret
          exact ⟨by rw [HG.out]; rfl, rfl⟩
        · have hbi : ¬ (5000 : Int) < (x.size : Int) := by omega
          have hall2 := HA.out (by omega)
          clear HA HB
          go_wp2
          exact ⟨⟨k + 1, by omega, by go_num, hall2⟩, by simp [intOf]; omega⟩
      · have hki : ¬ (k : Int) < (n : Int) := by omega
        have hall2 : ∀ x ∈ l, x.size ≤ 5000 := fun x hx => by
          obtain ⟨j, hj, rfl⟩ := List.getElem_of_mem hx
          exact hall j hj (by omega)
        have HG := Lib.hid (greatL_of (l := l) (by omega) hall2)
        clear hall hall2
        go_wp2
        go_ret
        exact ⟨by rw [HG.out]; rfl, rfl⟩

set_option maxHeartbeats 1000000 in
theorem wComp_any (j : ByteArray) (v : Value) (l : List ByteArray) (lo N : Nat) (w : World) (hv : StrsAt lo N w v l) (hN : N ≤ w.heap.size) (hj : j.size ≤ 1099511627776) (hn : l.length ≤ 40) (hs : ∀ x ∈ l, x.size ≤ 5000) :
    Calls Try.prog 26 #[.string j, v] w fun e w' => e = .returned (.tuple #[.string (mk (compactJ (bl j) (l.map bl)).1), .int .i64 (compactJ (bl j) (l.map bl)).2]) ∧ Below w.heap.size w w' := by
  obtain ⟨i0, hi, hz0, hz1, hz2⟩ := info_parts str_info
  have HT := Lib.hid (fun w => wTop_any j w hj)
  have hC : compactJ (bl j) (l.map bl) = if (topJ (bl j)).2.2 ≠ 0 then ([], (topJ (bl j)).2.2) else if (headJ ((topJ (bl j)).1 + 1)).2 ≠ 0 then ([], (headJ ((topJ (bl j)).1 + 1)).2) else ((headJ ((topJ (bl j)).1 + 1)).1 ++ recsJ (l.map bl) 0, 0) := rfl
  have htg := topJ_gen (bl j)
  generalize compactJ (bl j) (l.map bl) = C at *
  generalize topJ (bl j) = T at *
  have HV := Lib.hid (fun w' (k : Below w.heap.size w w') => hv.below k hN)
  obtain ⟨a, cap, rfl, hcap, -⟩ := hv
  have hT0 : 0 ≤ T.1 := htg.1
  have hT1 : T.1 ≤ 1099511627776 := htg.2
  have HH := Lib.hid (fun w => wHead_any (T.1 + 1) w (by omega) (by omega))
  have hhl := headJ_len (T.1 + 1)
  by_cases he : T.2.2 = 0
  · have heb : (T.2.2 != 0) = false := by simpa using he
    rw [if_neg (by omega)] at hC
    generalize headJ (T.1 + 1) = D at *
    by_cases hd : D.2 = 0
    · have hdb : (D.2 != 0) = false := by simpa using hd
      rw [if_neg (by omega)] at hC
      subst hC
      obtain ⟨n, hnn⟩ : ∃ n, l.length = n := ⟨_, rfl⟩
      have hrl : ∀ k (hk : k < l.length), (mk (recJ (bl l[k]) k)).size ≤ 5014 := fun k hk => by
        have h1 := hs l[k] (List.getElem_mem hk)
        have := recJ_le (bl l[k]) k (by rw [size_bl]; omega)
        rw [size_bl] at this
        show (recJ (bl l[k]) k).length ≤ _; omega
      have hsum : ∀ k, (D.1 ++ recsJ ((l.map bl).take k) 0).length ≤ 13 + 5014 * 40 := fun k => by
        have h2 := recsJ_size ((l.map bl).take k) (fun p hp => by
          obtain ⟨x, hx, rfl⟩ := List.mem_map.1 (List.mem_of_mem_take hp)
          rw [size_bl]; exact hs x hx) 0
        have h3 : ((l.map bl).take k).length ≤ 40 := by rw [List.length_take, List.length_map]; omega
        rw [List.length_append]; omega
      have hrec : ∀ k (hk : k < l.length), (D.1 ++ recsJ ((l.map bl).take (k + 1)) 0).length = (D.1 ++ recsJ ((l.map bl).take k) 0).length + (mk (recJ (bl l[k]) k)).size ∧ partsJ D.1 l (k + 1) = partsJ D.1 l k ++ [mk (recJ (bl l[k]) k)] := fun k hk => by
        refine ⟨?_, ?_⟩
        · rw [recs_succ _ k (by rw [List.length_map]; exact hk)]
          show (D.1 ++ (recsJ ((l.map bl).take k) 0 ++ recJ ((l.map bl)[k]'(by rw [List.length_map]; exact hk)) k)).length = (D.1 ++ recsJ ((l.map bl).take k) 0).length + (recJ (bl l[k]) k).length
          simp only [List.length_append, List.getElem_map]; omega
        · rw [partsJ_succ, List.getD_eq_getElem?_getD, List.getElem?_eq_getElem hk]; rfl
      have hrec' : ∀ k (hk : k < l.length), lenJ D.1 l (k + 1) = lenJ D.1 l k + (mk (recJ (bl l[k]) k)).size ∧ partsJ D.1 l (k + 1) = partsJ D.1 l k ++ [mk (recJ (bl l[k]) k)] := hrec
      have hsum' : ∀ k, lenJ D.1 l k ≤ 13 + 5014 * 40 := hsum
      have HRec := Lib.hid hrec'
      have HRl := Lib.hid hrl
      have HSum := Lib.hid hsum'
      have HR := Lib.hid (fun k (hk : k < l.length) w => wRec_any l[k] k w (by have := hs l[k] (List.getElem_mem hk); omega) (by omega))
      have HSz := Lib.hid (fun k (hk : k < l.length) => hs l[k] (List.getElem_mem hk))
      have hfl := partsJ_flat D.1 l l.length (Nat.le_refl _)
      rw [List.take_of_length_le (by rw [List.length_map]; exact Nat.le_refl _)] at hfl
      have hfll := hsum l.length
      rw [List.take_of_length_le (by rw [List.length_map]; exact Nat.le_refl _), ← hfl] at hfll
      rw [hnn] at hfl hfll
      have HJ := Lib.hid (fun v lo N w hv hN => join_any (partsJ D.1 l n) v lo N w hv hN (by rw [partsJ_length]; omega) (by omega))
      rw [hfl] at HJ
      have hD0 : (mk D.1).size = lenJ D.1 l 0 := by rw [lenJ, List.take_zero, recsJ, List.append_nil]; rfl
      have HD0 := Lib.hid hD0
      have hmz : (mk D.1).size ≤ 13 := hhl
      rw [hnn] at hcap hn HV ⊢
      clear hrec hrec' hrl hsum hsum' hs hfl hfll hD0 hhl he hd htg
      go_enter Try.func26, Try.ntmps26
      go_wp2_with fail
      refine (HT.out _).mono ?_
      rintro e w1 ⟨rfl, hb1⟩
      go_wp2_with fail
      refine (HH.out _).mono ?_
      rintro e w2 ⟨rfl, hb2⟩
      have hb12 := bt hb1 hb2
      go_wp2_with fail
      rw [HD0.out]
      go_loopw [10, 11, 39] (fun u z i wr => ∃ k : Nat, k ≤ n ∧ i = .int .i64 k ∧ z = .int .i64 ((lenJ D.1 l k : Nat) : Int) ∧ OwnS wr w.heap.size u (partsJ D.1 l k) ∧ Below w.heap.size w wr) (fun _ _ i _ => n - (intOf i).toNat)
      case atStart => exact ⟨0, Nat.zero_le _, rfl, rfl, OwnS.lit1 w2 (mk D.1) w.heap.size hb12.size, hb12.alloc hb12.size _⟩
      case round =>
        obtain ⟨k, hk, rfl, rfl, hown, hb⟩ := hrel
        by_cases hlt : k < n
        · have hkl : k < l.length := by omega
          obtain ⟨bk, off, rfl, hbk, hcl⟩ := (HV.out wr hb).get k hkl
          have HRk := Lib.hid (HR.out k hkl)
          obtain ⟨e1, e2⟩ := HRec.out k hkl
          have hrz := HRl.out k hkl
          have hxz := HSz.out k hkl
          have hsm := HSum.out k
          have hpl := partsJ_length D.1 l k
          have HPL := Lib.hid hpl
          have HE1 := Lib.hid e1
          have HE2 := Lib.hid e2
          have HB := Lib.hid hb.size
          have hki : (k : Int) < (n : Int) := by omega
          have hx1 : ¬ (262144 : Int) < ((l[k]).size : Int) := by omega
          clear e1 e2 hpl
          generalize lenJ D.1 l k = Z at *
          generalize mk (recJ (bl l[k]) k) = R at *
          generalize l[k] = x at *
          have hz1' : ¬ (1048576 : Int) < (Z : Int) + (R.size : Int) := by omega
          go_wp2_with fail
          refine (HRk.out _).mono ?_
          rintro e w3 ⟨rfl, hb3⟩
          have hown3 := hown.below hb3 (Nat.le_refl _)
          have HB3 := Lib.hid hb3.size
          go_wp2_with (at_builtin; refine wpList_append_own _ rfl _ _ 28 rfl w.heap.size 9 i0 (.string ByteArray.empty) 1 16 Try.underlying28 hi hz0 hz1 hz2 rfl (by decide) _ _ _ rfl (OwnS.alloc hown3 _) ⟨w3.heap.size, 0, none⟩ 1 1 [.string R] rfl rfl ?c1 ?c2 ?c3 ?c4 ?c5 ?_)
          case c1 =>
            intro j u hj
            match j, hj with
            | 0, hj => simp at hj; subst hj; simp [Addr.add]
          case c2 => intro u hu; simp at hu; subst hu; rfl
          case c3 => rw [HPL.out]; unfold maxLen; omega
          case c4 => rw [HPL.out]; omega
          case c5 => have := HB3.out; have := HB.out; simp; omega
          intro v' w4 hown' hgrow _
          go_wp2_with fail
          go_roundw
          case rel =>
            refine ⟨k + 1, by omega, by go_num, by rw [HE1.out]; go_num, ?_, ?_⟩
            · rw [HE2.out]; unfold OwnS; rw [List.length_append, List.map_append]; exact hown'
            · exact ((hb.trans (hb3.mono HB.out)).alloc (Nat.le_trans HB.out HB3.out) _).grown hgrow (by have := HB3.out; have := HB.out; simp; omega) (fun g hg => (World.ownsRow.lt hown3 g hg).1)
          case measure => simp [intOf]; omega
        · obtain rfl : k = n := by omega
          have HJk := Lib.hid (HJ.out _ _ _ _ hown.strs (Nat.le_refl _))
          go_wp2_with (go_at_call 36; refine HJk.out.mono ?_; rintro e w4 ⟨rfl, hb4⟩)
          go_ret2
          exact ⟨rfl, bt hb hb4⟩
    · have hdb : (D.2 != 0) = true := by simpa using hd
      rw [if_pos hd] at hC
      subst hC
      clear hd he hs htg
      go_enter Try.func26, Try.ntmps26
      go_wp2_with fail
      refine (HT.out _).mono ?_
      rintro e w1 ⟨rfl, hb1⟩
      go_wp2_with fail
      refine (HH.out _).mono ?_
      rintro e w2 ⟨rfl, hb2⟩
      go_wp2_with fail
      go_ret2
      exact ⟨rfl, bt hb1 hb2⟩
  · have heb : (T.2.2 != 0) = true := by simpa using he
    rw [if_pos he] at hC
    subst hC
    clear he hs htg
    go_enter Try.func26, Try.ntmps26
    go_wp2_with fail
    refine (HT.out _).mono ?_
    rintro e w1 ⟨rfl, hb1⟩
    go_wp2_with fail
    go_ret2
    exact ⟨rfl, hb1⟩
end Go.Proofs.Ytnglepapodncbaa
