/-
  The walks of what reads, adds to, cuts and chooses a journal, the reference's.
-/
import Derived.Test.YtnglepapodncbaaJouG
open Go Go.RowKit Go.Proofs
namespace Go.Proofs.Ytnglepapodncbaa
open Hub
set_option maxHeartbeats 1000000 in
theorem xScan_any (j : ByteArray) (w : World) (hs : j.size ≤ 1099511627776) :
    Calls Try.prog 18 #[.string j] w fun e w' => ∃ v, e = .returned (.tuple #[.int .i64 (scanJ (bl j)).1, v, .int .i64 (scanJ (bl j)).2.2.1, .int .i64 (scanJ (bl j)).2.2.2]) ∧ StrsAt w.heap.size w'.heap.size w' v ((scanJ (bl j)).2.1.map mk) ∧ Below w.heap.size w w' := by
  obtain ⟨i0, hi, hz0, hz1, hz2⟩ := info_parts str_info
  have HT := Lib.hid (fun w => xTop_any j w hs)
  have hsc : scanJ (bl j) = if (topJ (bl j)).2.2 ≠ 0 then (0, [], 0, (topJ (bl j)).2.2) else
    ((topJ (bl j)).1, (scanN ((bl j).drop (topJ (bl j)).2.1.toNat) 0).1, (topJ (bl j)).2.1 + (scanN ((bl j).drop (topJ (bl j)).2.1.toNat) 0).2.1, (scanN ((bl j).drop (topJ (bl j)).2.1.toNat) 0).2.2) := rfl
  have htb : (topJ (bl j)).2.2 = 0 → ∃ a : Nat, (topJ (bl j)).2.1 = a ∧ a ≤ j.size := fun h => by have := topJ_at (bl j) h; rwa [size_bl] at this
  generalize scanJ (bl j) = S at *
  generalize topJ (bl j) = T at *
  by_cases he : T.2.2 = 0
  · have heb : (T.2.2 != 0) = false := by simpa using he
    obtain ⟨a0, ha0, ha1⟩ := htb he
    rw [if_neg (by omega), ha0, Int.toNat_natCast] at hsc
    rw [ha0] at HT
    have HI0 := Lib.hid (ScanAt.start (bl j) a0)
    generalize scanN ((bl j).drop a0) 0 = R at *
    subst hsc
    clear he ha0 htb
    go_enter Try.func18, Try.ntmps18
    go_wp2_with fail
    refine (HT.out _).mono ?_
    rintro e w1 ⟨rfl, hb1⟩
    go_wp2_with fail
    go_loopw [7, 9] (fun u v wr => ∃ (a : Nat) (l : List (List UInt8)), u = .int .i64 a ∧ a ≤ j.size ∧ l.length ≤ a ∧ OwnS wr w.heap.size v (l.map mk) ∧ Below w.heap.size w wr ∧ ScanAt (bl j) R a0 a l) (fun u _ _ => j.size - (intOf u).toNat)
    case atStart => exact ⟨a0, [], rfl, ha1, Nat.zero_le _, OwnS.nil _ _, hb1, HI0.out⟩
    case round =>
      obtain ⟨a, l, rfl, ha, hl, hown, hb, hsc⟩ := hrel
      have hlm : (l.map mk).length = l.length := by simp
      obtain ⟨ao, cap, hu, hcap, hg⟩ := hown.shape
      rw [hlm] at hu hcap hg
      subst hu
      have hJ : (bl j).length = j.size := size_bl j
      have HB := Lib.hid hb.size
      have hl1 : (l.length : Int) ≤ (j.size : Int) := by omega
      have hl2 : (l.length : Int) ≤ (cap : Int) := by omega
      by_cases hlt : a < j.size
      · have hbd := Lib.hid (fun h => hsc.bad (by omega) h)
        have hgd := Lib.hid (fun h => hsc.good (by omega) h)
        have HNx := Lib.hid (fun w => xOne_any (j.extract a j.size) l.length w (by rw [ByteArray.size_extract]; omega) (by omega))
        rw [bl_drop] at HNx
        generalize oneJ ((bl j).drop a) l.length = o at *
        by_cases ho : o.2.2 = 0
        · obtain ⟨k, hk1, hk2, hk3, hsc'⟩ := hgd.out ho
          rw [hk1] at HNx
          have hob : (o.2.2 != 0) = false := by simpa using ho
          have HS := Lib.hid hsc'
          have HLM := Lib.hid hlm
          clear hbd hgd hk1 ho hsc' hsc hlm
          go_wp2_with fail
          refine (HNx.out _).mono ?_
          rintro e w2 ⟨rfl, hb2⟩
          have hown2 := hown.below hb2 (Nat.le_refl _)
          have HB2 := Lib.hid hb2.size
          go_wp2_with (at_builtin; refine wpList_append_own _ rfl _ _ 28 rfl w.heap.size 9 i0 (.string ByteArray.empty) 1 16 Try.underlying28 hi hz0 hz1 hz2 rfl (by decide) _ _ _ rfl (OwnS.alloc hown2 _) ⟨w2.heap.size, 0, none⟩ 1 1 [.string (mk o.1)] rfl rfl ?c1 ?c2 ?c3 ?c4 ?c5 ?_)
          case c1 =>
            intro j u hj
            match j, hj with
            | 0, hj => simp at hj; subst hj; simp [Addr.add]
          case c2 => intro u hu; simp at hu; subst hu; rfl
          case c3 => rw [HLM.out]; unfold maxLen; omega
          case c4 => rw [HLM.out]; omega
          case c5 => have := HB2.out; have := HB.out; simp; omega
          intro v' w4 hown' hgrow _
          go_wp2_with fail
          go_roundw
          case rel =>
            refine ⟨a + k, l ++ [o.1], by go_num, by omega, by simp; omega, ?_, ?_, HS.out⟩
            · unfold OwnS
              rw [List.map_append, List.length_append, List.map_append, List.length_map, List.map_map]; exact hown'
            · exact ((hb.trans (hb2.mono HB.out)).alloc (Nat.le_trans HB.out HB2.out) _).grown hgrow (by have := HB2.out; have := HB.out; simp; omega) (fun g hg => (World.ownsRow.lt hown2 g hg).1)
          case measure => simp [intOf]; omega
        · obtain ⟨h1, h2, h3⟩ := hbd.out ho
          have hob : (o.2.2 != 0) = true := by simpa using ho
          have HOw := Lib.hid hown
          replace hlm := Lib.hid hlm
          clear hbd hgd ho hsc hown
          go_wp2_with fail
          refine (HNx.out _).mono ?_
          rintro e w2 ⟨rfl, hb2⟩
          go_wp2_with fail
          refine bodyPost_ret (v := .tuple #[.int .i64 T.1, .slice ao l.length cap, .int .i64 (a : Int), .int .i64 o.2.2]) ?_ rfl ⟨_, by rw [h2, h3], by rw [h1]; exact (HOw.out.below hb2 (Nat.le_refl _)).strs, hb.trans (hb2.mono HB.out)⟩
          simp [results, Try.results18, go_sem]
      · obtain ⟨h1, h2, h3⟩ := hsc.done (by omega)
        have HOw := Lib.hid hown
        replace hlm := Lib.hid hlm
        clear hsc hown
        go_wp2_with fail
        refine bodyPost_ret (v := .tuple #[.int .i64 T.1, .slice ao l.length cap, .int .i64 (a : Int), .int .i64 0]) ?_ rfl ⟨_, by rw [h2, h3], by rw [h1]; exact HOw.out.strs, hb⟩
        simp [results, Try.results18, go_sem]
  · have heb : (T.2.2 != 0) = true := by simpa using he
    rw [if_pos he] at hsc
    subst hsc
    clear he htb
    go_enter Try.func18, Try.ntmps18
    go_wp2_with fail
    refine (HT.out _).mono ?_
    rintro e w1 ⟨rfl, hb1⟩
    go_wp2_with fail
    refine bodyPost_ret (v := .tuple #[.int .i64 0, .slice none 0 0, .int .i64 0, .int .i64 T.2.2]) ?_ rfl ⟨_, rfl, StrsAt.nil _ _ _, hb1⟩
    simp [results, Try.results18, go_sem]

set_option maxHeartbeats 1000000 in
theorem xAdd_any (j p : ByteArray) (w : World) (hs : j.size ≤ 1099511627776) (hp : p.size ≤ 1099511627700) :
    Calls Try.prog 12 #[.string j, .string p] w fun e w' => e = .returned (.tuple #[.string (mk (addJ (bl j) (bl p)).1), .int .i64 (addJ (bl j) (bl p)).2]) ∧ Below w.heap.size w w' := by
  have HS := Lib.hid (fun w => xScan_any j w hs)
  obtain ⟨a, _, _, hl⟩ := scanJ_bounds (bl j)
  have had : addJ (bl j) (bl p) = if (scanJ (bl j)).2.2.2 ≠ 0 then ([], (scanJ (bl j)).2.2.2) else if 262144 < (bl p).length then ([], 3) else
    if 1048576 < ((bl j) ++ recJ (bl p) (scanJ (bl j)).2.1.length).length then ([], 3) else ((bl j) ++ recJ (bl p) (scanJ (bl j)).2.1.length, 0) := rfl
  generalize addJ (bl j) (bl p) = A at *
  generalize scanJ (bl j) = S at *
  have hpz := size_bl p
  rw [size_bl] at hl
  rw [hpz] at had
  by_cases he : S.2.2.2 = 0
  · have heb : (S.2.2.2 != 0) = false := by simpa using he
    rw [if_neg (by omega)] at had
    by_cases h2 : 262144 < p.size
    · rw [if_pos h2] at had
      subst had
      have h2i : (262144 : Int) < (p.size : Int) := by omega
      clear he
      go_enter Try.func12, Try.ntmps12
      go_wp2_with fail
      refine (HS.out _).mono ?_
      rintro e w1 ⟨v, rfl, hv, hb⟩
      go_wp2_with fail
      go_ret2
      exact ⟨rfl, hb⟩
    · rw [if_neg h2] at had
      have h2i : ¬ (262144 : Int) < (p.size : Int) := by omega
      have HR := Lib.hid (fun w => xRec_any p S.2.1.length w (by omega) (by omega))
      have hrl := recJ_le (bl p) S.2.1.length (by omega)
      have hj : j ++ mk (recJ (bl p) S.2.1.length) = mk (bl j ++ recJ (bl p) S.2.1.length) := by apply bl_inj; rw [bl_append, bl_mk, bl_mk]
      have hjz : (j ++ mk (recJ (bl p) S.2.1.length)).size = (bl j ++ recJ (bl p) S.2.1.length).length := by rw [hj]; rfl
      have hz : (mk (recJ (bl p) S.2.1.length)).size = (recJ (bl p) S.2.1.length).length := rfl
      rw [← hjz] at had
      have HJ := Lib.hid hj
      have hz2 : (mk (recJ (bl p) S.2.1.length)).size ≤ 262200 := by omega
      clear hj hjz hz hrl he
      generalize bl j ++ recJ (bl p) S.2.1.length = O1 at *
      generalize mk (recJ (bl p) S.2.1.length) = K at *
      have hsz : (j ++ K).size = j.size + K.size := ByteArray.size_append
      by_cases h3 : 1048576 < (j ++ K).size
      · rw [if_pos h3] at had
        subst had
        have h3i : (1048576 : Int) < (j.size : Int) + (K.size : Int) := by omega
        have h3j : (1048576 : Int) < ((j ++ K).size : Int) := by omega
        go_enter Try.func12, Try.ntmps12
        go_wp2_with fail
        refine (HS.out _).mono ?_
        rintro e w1 ⟨v, rfl, hv, hb⟩
        obtain ⟨ao, cap, rfl, _, _⟩ := hv
        rw [List.length_map]
        go_wp2_with fail
        refine (HR.out _).mono ?_
        rintro e w2 ⟨rfl, hb2⟩
        go_wp2_with fail
        go_ret2
        exact ⟨rfl, bt hb hb2⟩
      · rw [if_neg h3] at had
        subst had
        have h3i : ¬ (1048576 : Int) < (j.size : Int) + (K.size : Int) := by omega
        have h3j : ¬ (1048576 : Int) < ((j ++ K).size : Int) := by omega
        go_enter Try.func12, Try.ntmps12
        go_wp2_with fail
        refine (HS.out _).mono ?_
        rintro e w1 ⟨v, rfl, hv, hb⟩
        obtain ⟨ao, cap, rfl, _, _⟩ := hv
        rw [List.length_map]
        go_wp2_with fail
        refine (HR.out _).mono ?_
        rintro e w2 ⟨rfl, hb2⟩
        go_wp2_with fail
        first | rw [HJ.out] | skip
        go_ret2
        exact ⟨rfl, bt hb hb2⟩
  · have heb : (S.2.2.2 != 0) = true := by simpa using he
    rw [if_pos he] at had
    subst had
    clear he
    go_enter Try.func12, Try.ntmps12
    go_wp2_with fail
    refine (HS.out _).mono ?_
    rintro e w1 ⟨v, rfl, hv, hb⟩
    go_wp2_with fail
    go_ret2
    exact ⟨rfl, hb⟩

theorem xWhole_any (j : ByteArray) (w : World) (hs : j.size ≤ 1099511627776) :
    Calls Try.prog 20 #[.string j] w fun e w' => e = .returned (.bool (wholeJ (bl j))) ∧ Below w.heap.size w w' := by
  have HS := Lib.hid (fun w => xScan_any j w hs)
  have HW := Lib.hid (show wholeJ (bl j) = ((scanJ (bl j)).2.2.2 == 0) by rw [wholeJ]; by_cases h : (scanJ (bl j)).2.2.2 = 0 <;> simp [h])
  generalize scanJ (bl j) = S at *
  go_enter Try.func20, Try.ntmps20
  go_wp2_with fail
  refine (HS.out _).mono ?_
  rintro e w1 ⟨v, rfl, hv, hb⟩
  go_wp2_with fail
  go_ret
  exact ⟨by rw [HW.out]; rfl, hb⟩

theorem xCut_any (j : ByteArray) (w : World) (hs : j.size ≤ 1099511627776) :
    Calls Try.prog 22 #[.string j] w fun e w' => e = .returned (.string (mk (cutJ (bl j)))) ∧ Below w.heap.size w w' := by
  have HS := Lib.hid (fun w => xScan_any j w hs)
  have hc : cutJ (bl j) = (bl j).take (scanJ (bl j)).2.2.1.toNat := rfl
  obtain ⟨a, h1, h2, _⟩ := scanJ_bounds (bl j)
  rw [h1, Int.toNat_natCast, ← bl_take] at hc
  rw [size_bl] at h2
  have HC := Lib.hid hc
  generalize scanJ (bl j) = S at *
  rw [h1] at HS
  have h3 : (a : Int) ≤ (j.size : Int) := by omega
  clear hc h1
  go_enter Try.func22, Try.ntmps22
  go_wp2_with fail
  refine (HS.out _).mono ?_
  rintro e w1 ⟨v, rfl, hv, hb⟩
  go_wp2_with fail
  go_ret
  exact ⟨by rw [HC.out, mk_bl]; rfl, hb⟩

theorem xTwo_any (a b : ByteArray) (w : World) (hs : a.size ≤ 1099511627776) (hs2 : b.size ≤ 1099511627776) :
    Calls Try.prog 24 #[.string a, .string b] w fun e w' => e = .returned (.string (mk (twoJ (bl a) (bl b)))) ∧ Below w.heap.size w w' := by
  have HA := Lib.hid (fun w => xTop_any a w hs)
  have HB := Lib.hid (fun w => xTop_any b w hs2)
  have hd : mk (twoJ (bl a) (bl b)) = if (topJ (bl a)).2.2 ≠ 0 ∧ (topJ (bl b)).2.2 ≠ 0 then mk [] else if (topJ (bl a)).2.2 ≠ 0 ∨ ((topJ (bl b)).2.2 = 0 ∧ (topJ (bl a)).1 < (topJ (bl b)).1) then b else a := by
    rw [twoJ]; split
    · rfl
    · split <;> rw [mk_bl]
  generalize topJ (bl a) = A at *
  generalize topJ (bl b) = B at *
  generalize mk (twoJ (bl a) (bl b)) = O at *
  by_cases ha : A.2.2 = 0
  · have hab : (A.2.2 == 0) = true := by simpa using ha
    have han : (A.2.2 != 0) = false := by simpa using ha
    by_cases hb : B.2.2 = 0
    · have hbb : (B.2.2 == 0) = true := by simpa using hb
      have hbn : (B.2.2 != 0) = false := by simpa using hb
      by_cases hg : A.1 < B.1
      · obtain rfl : O = b := by rw [hd, if_neg (by omega), if_pos (.inr ⟨hb, hg⟩)]
        clear hd ha hb
        go_enter Try.func24, Try.ntmps24
        go_wp2_with fail
        refine (HA.out _).mono ?_
        rintro e w1 ⟨rfl, hb1⟩
        go_wp2_with fail
        refine (HB.out _).mono ?_
        rintro e w2 ⟨rfl, hb2⟩
        go_wp2_with fail
        go_ret
        exact ⟨rfl, bt hb1 hb2⟩
      · obtain rfl : O = a := by rw [hd, if_neg (by omega), if_neg (by omega)]
        clear hd ha hb
        go_enter Try.func24, Try.ntmps24
        go_wp2_with fail
        refine (HA.out _).mono ?_
        rintro e w1 ⟨rfl, hb1⟩
        go_wp2_with fail
        refine (HB.out _).mono ?_
        rintro e w2 ⟨rfl, hb2⟩
        go_wp2_with fail
        go_ret
        exact ⟨rfl, bt hb1 hb2⟩
    · have hbb : (B.2.2 == 0) = false := by simpa using hb
      have hbn : (B.2.2 != 0) = true := by simpa using hb
      obtain rfl : O = a := by rw [hd, if_neg (by omega), if_neg (by omega)]
      clear hd ha hb
      go_enter Try.func24, Try.ntmps24
      go_wp2_with fail
      refine (HA.out _).mono ?_
      rintro e w1 ⟨rfl, hb1⟩
      go_wp2_with fail
      refine (HB.out _).mono ?_
      rintro e w2 ⟨rfl, hb2⟩
      go_wp2_with fail
      go_ret
      exact ⟨rfl, bt hb1 hb2⟩
  · have hab : (A.2.2 == 0) = false := by simpa using ha
    have han : (A.2.2 != 0) = true := by simpa using ha
    by_cases hb : B.2.2 = 0
    · have hbb : (B.2.2 == 0) = true := by simpa using hb
      have hbn : (B.2.2 != 0) = false := by simpa using hb
      obtain rfl : O = b := by rw [hd, if_neg (by omega), if_pos (.inl ha)]
      clear hd ha hb
      go_enter Try.func24, Try.ntmps24
      go_wp2_with fail
      refine (HA.out _).mono ?_
      rintro e w1 ⟨rfl, hb1⟩
      go_wp2_with fail
      refine (HB.out _).mono ?_
      rintro e w2 ⟨rfl, hb2⟩
      go_wp2_with fail
      go_ret
      exact ⟨rfl, bt hb1 hb2⟩
    · have hbb : (B.2.2 == 0) = false := by simpa using hb
      have hbn : (B.2.2 != 0) = true := by simpa using hb
      obtain rfl : O = mk [] := by rw [hd, if_pos ⟨ha, hb⟩]
      clear hd ha hb
      go_enter Try.func24, Try.ntmps24
      go_wp2_with fail
      refine (HA.out _).mono ?_
      rintro e w1 ⟨rfl, hb1⟩
      go_wp2_with fail
      refine (HB.out _).mono ?_
      rintro e w2 ⟨rfl, hb2⟩
      go_wp2_with fail
      go_ret
      exact ⟨rfl, bt hb1 hb2⟩
end Go.Proofs.Ytnglepapodncbaa
