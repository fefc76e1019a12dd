/-
  The reference's Compact; the laws on Compact, joined.
-/
import Derived.Test.YtnglepapodncbaaJouT
import Derived.Test.YtnglepapodncbaaJouS
import Derived.Deep.DeepFit
open Go Go.RowKit Go.Proofs
namespace Go.Proofs.Ytnglepapodncbaa
namespace Hub
def outJ (h : List UInt8) (l : List ByteArray) (k : Nat) : ByteArray := mk (h ++ recsJ ((l.map bl).take k) 0)
theorem outJ_zero (h : List UInt8) (l : List ByteArray) : outJ h l 0 = mk h := by rw [outJ, List.take_zero, recsJ, List.append_nil]
theorem outJ_succ (h : List UInt8) (l : List ByteArray) (k : Nat) (hk : k < l.length) : outJ h l (k + 1) = outJ h l k ++ mk (recJ (bl l[k]) k) := by
  apply bl_inj
  rw [outJ, recs_succ _ k (by rw [List.length_map]; exact hk), bl_append, bl_mk, outJ, bl_mk, bl_mk, List.append_assoc]
  simp
theorem outJ_all (h : List UInt8) (l : List ByteArray) : outJ h l l.length = mk (h ++ recsJ (l.map bl) 0) := by
  rw [outJ, List.take_of_length_le (by rw [List.length_map]; exact Nat.le_refl _)]
theorem outJ_size (g : Int) (l : List ByteArray) (hn : l.length ≤ 40) (hs : ∀ x ∈ l, x.size ≤ 5000) (k : Nat) : (outJ (headJ g).1 l k).size ≤ 13 + 5014 * 40 := by
  show ((headJ g).1 ++ recsJ ((l.map bl).take k) 0).length ≤ _
  have h1 := headJ_len g
  have h2 := recsJ_size ((l.map bl).take k) (fun p hp => by
    obtain ⟨x, hx, rfl⟩ := List.mem_map.1 (List.mem_of_mem_take hp)
    rw [size_bl]; exact hs x hx) 0
  have h3 : ((l.map bl).take k).length ≤ 40 := by rw [List.length_take, List.length_map]; omega
  rw [List.length_append]; omega
theorem comp_bad {j : List UInt8} {L : List (List UInt8)} (h : (compactJ j L).2 ≠ 0) : (compactJ j L).1 = [] := by
  revert h
  rw [compactJ]
  split
  · intro _; rfl
  · split
    · intro _; rfl
    · intro h; exact absurd rfl h
theorem comp_good {j : List UInt8} {L : List (List UInt8)} (h : (compactJ j L).2 = 0) : ∃ g, 1 ≤ g ∧ g ≤ 1099511627776 ∧ (topJ j).2.2 = 0 ∧ (topJ j).1 < g ∧ compactJ j L = (hdJ g ++ recsJ L 0, 0) := by
  by_cases h1 : (topJ j).2.2 = 0
  · by_cases h2 : (headJ ((topJ j).1 + 1)).2 = 0
    · have h3 : ¬ ((topJ j).1 + 1 < 1 ∨ 1099511627776 < (topJ j).1 + 1) := by
        intro hc
        rw [headJ, if_pos hc] at h2
        simp at h2
      have h4 : (headJ ((topJ j).1 + 1)).1 = hdJ ((topJ j).1 + 1) := by rw [headJ, if_neg h3]; rfl
      refine ⟨(topJ j).1 + 1, by omega, by omega, h1, by omega, ?_⟩
      rw [compactJ, if_neg (by omega), if_neg (by omega), h4]
    · exfalso
      rw [compactJ, if_neg (by omega), if_pos h2] at h
      exact h2 h
  · exfalso
    rw [compactJ, if_pos h1] at h
    exact h1 h
theorem comp_size {l : List ByteArray} (hn : l.length ≤ 40) (hs : ∀ x ∈ l, x.size ≤ 5000) (g : Int) (h0 : 1 ≤ g) (h1 : g ≤ 1099511627776) :
    (hdJ g ++ recsJ (l.map bl) 0).length ≤ 13 + 5014 * 40 ∧ shortJ (l.map bl) := by
  have h2 := recsJ_size (l.map bl) (fun p hp => by
    obtain ⟨x, hx, rfl⟩ := List.mem_map.1 hp
    rw [size_bl]; exact hs x hx) 0
  have h3 : (l.map bl).length ≤ 40 := by rw [List.length_map]; omega
  have h4 : (hdJ g).length ≤ 13 := by
    have := enc_length g (by omega) (by omega)
    rw [hdJ, List.length_append]; show 3 + _ ≤ 13; omega
  refine ⟨by rw [List.length_append]; omega, fun p hp => ?_⟩
  obtain ⟨x, hx, rfl⟩ := List.mem_map.1 hp
  rw [size_bl]; have := hs x hx; omega
/-- Two prefers what Compact made, in either order. -/
theorem two_new {j n : List UInt8} {g z : Int} (h2 : (topJ j).1 < g) (h3 : topJ n = (g, z, 0)) : twoJ j n = n ∧ twoJ n j = n := by
  refine ⟨?_, ?_⟩
  · rw [twoJ, h3, if_neg (by simp), if_pos (.inr ⟨rfl, h2⟩)]
  · rw [twoJ, h3, if_neg (by simp), if_neg]
    simp only
    intro hc
    rcases hc with hc | ⟨_, hc⟩
    · exact hc rfl
    · omega
end Hub
open Hub

set_option maxHeartbeats 1000000 in
theorem xComp_any (j : ByteArray) (v : Value) (l : List ByteArray) (lo N : Nat) (w : World) (hv : StrsAt lo N w v l) (hN : N ≤ w.heap.size) (hj : j.size ≤ 1099511627776) (hn : l.length ≤ 40) (hs : ∀ x ∈ l, x.size ≤ 5000) :
    Calls Try.prog 27 #[.string j, v] w fun e w' => e = .returned (.tuple #[.string (mk (compactJ (bl j) (l.map bl)).1), .int .i64 (compactJ (bl j) (l.map bl)).2]) ∧ Below w.heap.size w w' := by
  have HT := Lib.hid (fun w => xTop_any j w hj)
  have hC : compactJ (bl j) (l.map bl) = if (topJ (bl j)).2.2 ≠ 0 then ([], (topJ (bl j)).2.2) else if (headJ ((topJ (bl j)).1 + 1)).2 ≠ 0 then ([], (headJ ((topJ (bl j)).1 + 1)).2) else ((headJ ((topJ (bl j)).1 + 1)).1 ++ recsJ (l.map bl) 0, 0) := rfl
  have htg := topJ_gen (bl j)
  generalize compactJ (bl j) (l.map bl) = C at *
  generalize topJ (bl j) = T at *
  have HV := Lib.hid (fun w' (k : Below w.heap.size w w') => hv.below k hN)
  obtain ⟨a, cap, rfl, hcap, -⟩ := hv
  have hT0 : 0 ≤ T.1 := htg.1
  have hT1 : T.1 ≤ 1099511627776 := htg.2
  have HH := Lib.hid (fun w => xHead_any (T.1 + 1) w (by omega) (by omega))
  have hsz := outJ_size (T.1 + 1) l hn hs
  by_cases he : T.2.2 = 0
  · have heb : (T.2.2 != 0) = false := by simpa using he
    rw [if_neg (by omega)] at hC
    generalize headJ (T.1 + 1) = D at *
    by_cases hd : D.2 = 0
    · have hdb : (D.2 != 0) = false := by simpa using hd
      rw [if_neg (by omega)] at hC
      subst hC
      have HSz := Lib.hid hsz
      have HZ := Lib.hid (outJ_zero D.1 l)
      have HS := Lib.hid (fun k hk => outJ_succ D.1 l k hk)
      have HL := Lib.hid (outJ_all D.1 l)
      have HR := Lib.hid (fun k (hk : k < l.length) w => xRec_any l[k] k w (by have := hs l[k] (List.getElem_mem hk); omega) (by omega))
      have HX := Lib.hid (fun k (hk : k < l.length) => hs l[k] (List.getElem_mem hk))
      show Calls _ _ _ _ fun e w' => e = .returned (.tuple #[.string (mk (D.1 ++ recsJ (l.map bl) 0)), .int .i64 0]) ∧ _
      obtain ⟨n, hnn⟩ : ∃ n, l.length = n := ⟨_, rfl⟩
      rw [hnn] at hcap hn HV HL ⊢
      rw [← HL.out]
      clear hsz hs he hd htg
      go_enter Try.func27, Try.ntmps27
      go_wp2_with fail
      refine (HT.out _).mono ?_
      rintro e w1 ⟨rfl, hb1⟩
      go_wp2_with fail
      refine (HH.out _).mono ?_
      rintro e w2 ⟨rfl, hb2⟩
      have hb12 := bt hb1 hb2
      go_wp2_with fail
      rw [← HZ.out]
      go_loopw [9, 10] (fun z i wr => ∃ k : Nat, k ≤ n ∧ i = .int .i64 k ∧ z = .string (outJ D.1 l k) ∧ Below w.heap.size w wr) (fun _ i _ => n - (intOf i).toNat)
      case atStart => exact ⟨0, Nat.zero_le _, rfl, rfl, hb12⟩
      case round =>
        obtain ⟨k, hk, rfl, rfl, hb⟩ := hrel
        by_cases hlt : k < n
        · have hkl : k < l.length := by omega
          obtain ⟨bk, off, rfl, hbk, hcl⟩ := (HV.out wr hb).get k hkl
          have HRk := Lib.hid (HR.out k hkl)
          have HSk := Lib.hid (HS.out k hkl)
          have hrz := HSz.out (k + 1)
          rw [HSk.out, ByteArray.size_append] at hrz
          have hxz := HX.out k hkl
          have hki : (k : Int) < (n : Int) := by omega
          have hx1 : ¬ (262144 : Int) < ((l[k]).size : Int) := by omega
          generalize outJ D.1 l k = Z at *
          generalize mk (recJ (bl l[k]) k) = R at *
          generalize l[k] = x at *
          have hz1' : ¬ (1048576 : Int) < (Z.size : Int) + (R.size : Int) := by omega
          go_wp2_with fail
          refine (HRk.out _).mono ?_
          rintro e w3 ⟨rfl, hb3⟩
          go_wp2_with fail
          go_roundw
          case rel => exact ⟨k + 1, by omega, by go_num, by rw [HSk.out], bt hb hb3⟩
          case measure => simp [intOf]; omega
        · obtain rfl : k = n := by omega
          go_wp2_with fail
          go_ret2
          exact ⟨rfl, hb⟩
    · have hdb : (D.2 != 0) = true := by simpa using hd
      rw [if_pos hd] at hC
      subst hC
      clear hd he hs htg hsz
      go_enter Try.func27, Try.ntmps27
      go_wp2_with fail
      refine (HT.out _).mono ?_
      rintro e w1 ⟨rfl, hb1⟩
      go_wp2_with fail
      refine (HH.out _).mono ?_
      rintro e w2 ⟨rfl, hb2⟩
      go_wp2_with fail
      go_ret2
      exact ⟨rfl, bt hb1 hb2⟩
  · have heb : (T.2.2 != 0) = true := by simpa using he
    rw [if_pos he] at hC
    subst hC
    clear he hs htg hsz
    go_enter Try.func27, Try.ntmps27
    go_wp2_with fail
    refine (HT.out _).mono ?_
    rintro e w1 ⟨rfl, hb1⟩
    go_wp2_with fail
    go_ret2
    exact ⟨rfl, hb1⟩

set_option maxHeartbeats 1000000 in
theorem lawCompacts (j : ByteArray) (v : Value) (l : List ByteArray) (w : World) (_hj : j.size ≤ maxLen) (hv : StrsAt 0 w.heap.size w v l) (_hl : l.length ≤ maxLen) (_hx : ∀ x ∈ l, x.size ≤ maxLen) :
    Calls Try.prog 8 #[.string j, v] w fun e w' => e = .returned (.bool true) ∧ Below w.heap.size w w' := by
  by_cases hj : 20000 < j.size
  · have hji : (20000 : Int) < (j.size : Int) := by omega
    clear _hj _hl _hx
    go_enter Try.func8, Try.ntmps8
    go_wp2_with (refine (lives_any _).mono ?_; rintro e w1 ⟨rfl, hb⟩)
    go_ret
    exact ⟨rfl, hb⟩
  · have hji : ¬ (20000 : Int) < (j.size : Int) := by omega
    have HG := Lib.hid (fun w' lo N hv => great_any v l lo N w' hv _hl)
    have HV := Lib.hid hv
    by_cases hg : greatL l = true
    · rw [hg] at HG
      clear _hj _hl _hx hv
      go_enter Try.func8, Try.ntmps8
      go_wp2_with (first | (go_at_call 25; refine (HG.out _ _ _ HV.out).mono ?_; rintro e w1 ⟨rfl, rfl⟩) | (go_at_call 10; refine (lives_any _).mono ?_; rintro e w8 ⟨rfl, hb8⟩))
      go_ret
      exact ⟨rfl, hb8⟩
    · obtain ⟨hn, hs⟩ := greatL_no (by simpa using hg)
      have hgf : greatL l = false := by simpa using hg
      rw [hgf] at HG
      have HA := Lib.hid (fun w' (k : Below w.heap.size w w') => wComp_any j v l 0 w.heap.size w' (hv.below k (Nat.le_refl _)) k.size (by omega) hn hs)
      have HX := Lib.hid (fun w' (k : Below w.heap.size w w') => xComp_any j v l 0 w.heap.size w' (hv.below k (Nat.le_refl _)) k.size (by omega) hn hs)
      clear _hj _hl _hx hv hn hs
      generalize compactJ (bl j) (l.map bl) = C at *
      generalize mk C.1 = CS at *
      go_enter Try.func8, Try.ntmps8
      go_wp2_with (go_at_call 25; refine (HG.out _ _ _ HV.out).mono ?_; rintro e w1 ⟨rfl, rfl⟩)
      refine (HA.out _ (Below.refl _ _)).mono ?_
      rintro e w2 ⟨rfl, hb2⟩
      go_wp2_with fail
      refine (HX.out _ hb2).mono ?_
      rintro e w3 ⟨rfl, hb3⟩
      have hb23 := bt hb2 hb3
      go_wp2_with (go_at_call 10; refine (lives_any _).mono ?_; rintro e w8 ⟨rfl, hb8⟩)
      go_ret
      exact ⟨rfl, bt hb23 hb8⟩

set_option maxHeartbeats 1000000 in
theorem lawNewer (j : ByteArray) (v : Value) (l : List ByteArray) (w : World) (_hj : j.size ≤ maxLen) (hv : StrsAt 0 w.heap.size w v l) (_hl : l.length ≤ maxLen) (_hx : ∀ x ∈ l, x.size ≤ maxLen) :
    Calls Try.prog 9 #[.string j, v] w fun e w' => e = .returned (.bool true) ∧ Below w.heap.size w w' := by
  by_cases hj : 20000 < j.size
  · have hji : (20000 : Int) < (j.size : Int) := by omega
    clear _hj _hl _hx
    go_enter Try.func9, Try.ntmps9
    go_wp2_with (refine (lives_any _).mono ?_; rintro e w1 ⟨rfl, hb⟩)
    go_ret
    exact ⟨rfl, hb⟩
  · have hji : ¬ (20000 : Int) < (j.size : Int) := by omega
    have HG := Lib.hid (fun w' lo N hv => great_any v l lo N w' hv _hl)
    have HV := Lib.hid hv
    by_cases hg : greatL l = true
    · rw [hg] at HG
      clear _hj _hl _hx hv
      go_enter Try.func9, Try.ntmps9
      go_wp2_with (first | (go_at_call 25; refine (HG.out _ _ _ HV.out).mono ?_; rintro e w1 ⟨rfl, rfl⟩) | (go_at_call 10; refine (lives_any _).mono ?_; rintro e w8 ⟨rfl, hb8⟩))
      go_ret
      exact ⟨rfl, hb8⟩
    · obtain ⟨hn, hs⟩ := greatL_no (by simpa using hg)
      have hgf : greatL l = false := by simpa using hg
      rw [hgf] at HG
      have HA := Lib.hid (fun w' (k : Below w.heap.size w w') => wComp_any j v l 0 w.heap.size w' (hv.below k (Nat.le_refl _)) k.size (by omega) hn hs)
      by_cases hc : (compactJ (bl j) (l.map bl)).2 = 0
      · obtain ⟨g, g0, g1, ht, hlt, hC⟩ := comp_good hc
        obtain ⟨hz, hsh⟩ := comp_size hn hs g g0 g1
        rw [hC] at HA
        have HS := Lib.hid (fun w => wScan_any (mk (hdJ g ++ recsJ (l.map bl) 0)) w (show (hdJ g ++ recsJ (l.map bl) 0).length ≤ _ by omega))
        rw [bl_mk, scanJ_whole g0 g1 hsh (by omega)] at HS
        have hml : (l.map bl).map mk = l := by have := mk_bls l l.length; rwa [List.take_of_length_le (by simp), List.take_of_length_le (Nat.le_refl _)] at this
        simp only [hml] at HS
        obtain ⟨t1, t2⟩ := two_new hlt (topJ_read (t := recsJ (l.map bl) 0) g0 g1 (by omega))
        have HT1 := Lib.hid (fun w => wTwo_any j (mk (hdJ g ++ recsJ (l.map bl) 0)) w (by omega) (show (hdJ g ++ recsJ (l.map bl) 0).length ≤ _ by omega))
        have HT2 := Lib.hid (fun w => wTwo_any (mk (hdJ g ++ recsJ (l.map bl) 0)) j w (show (hdJ g ++ recsJ (l.map bl) 0).length ≤ _ by omega) (by omega))
        rw [bl_mk, t1] at HT1
        rw [bl_mk, t2] at HT2
        clear _hj _hl _hx hv hs t1 t2 ht hlt hC hz hsh hml hc g0 hg hgf
        simp only at HA HS
        generalize mk (hdJ g ++ recsJ (l.map bl) 0) = J at *
        generalize ((hdJ g ++ recsJ (l.map bl) 0).length : Int) = Z at *
        go_enter Try.func9, Try.ntmps9
        go_wp2_with (go_at_call 25; refine (HG.out _ _ _ HV.out).mono ?_; rintro e w1 ⟨rfl, rfl⟩)
        refine (HA.out _ (Below.refl _ _)).mono ?_
        rintro e w2 ⟨rfl, hb2⟩
        go_wp2_with fail
        refine (HS.out _).mono ?_
        rintro e w3 ⟨v3, rfl, hv3, hb3⟩
        have hb23 := bt hb2 hb3
        have hvq := HV.out.below hb23 (Nat.le_refl _)
        have HQ := Lib.hid (sameS_any v3 v l l _ _ _ _ w3 hv3 hvq (by omega))
        rw [decide_eq_true rfl] at HQ
        clear hv3 hvq
        go_wp2_with (first | (go_at_call 17; refine HQ.out.mono ?_; rintro e w4 ⟨rfl, n4, rfl⟩) | (go_at_call 23; go_fit (HT1.out _); rintro e w5 ⟨rfl, hb5⟩) | (go_at_call 23; go_fit (HT2.out _); rintro e w6 ⟨rfl, hb6⟩) | (go_at_call 10; refine (lives_any _).mono ?_; rintro e w8 ⟨rfl, hb8⟩))
        go_ret
        exact ⟨rfl, bt (Below.drewN' hb23 n4) (bt hb5 (bt hb6 hb8))⟩
      · have hcb : ((compactJ (bl j) (l.map bl)).2 != 0) = true := by simpa using hc
        rw [comp_bad hc] at HA
        have hmn : mk [] = ⟨#[]⟩ := rfl
        rw [hmn] at HA
        clear _hj _hl _hx hv hs hc hmn hg hgf
        generalize (compactJ (bl j) (l.map bl)).2 = E at *
        go_enter Try.func9, Try.ntmps9
        go_wp2_with (go_at_call 25; refine (HG.out _ _ _ HV.out).mono ?_; rintro e w1 ⟨rfl, rfl⟩)
        refine (HA.out _ (Below.refl _ _)).mono ?_
        rintro e w2 ⟨rfl, hb2⟩
        go_wp2_with (go_at_call 10; refine (lives_any _).mono ?_; rintro e w8 ⟨rfl, hb8⟩)
        go_ret
        exact ⟨rfl, bt hb2 hb8⟩
end Go.Proofs.Ytnglepapodncbaa
