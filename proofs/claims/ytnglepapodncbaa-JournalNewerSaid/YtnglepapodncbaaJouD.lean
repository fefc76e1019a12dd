/-
  The walk of what reads a whole journal, the program's.
-/
import Derived.Test.YtnglepapodncbaaJouC
import Derived.Deep.LoopGhost
open Go Go.RowKit Go.Proofs
namespace Go.Proofs.Ytnglepapodncbaa
namespace Hub
/-- Where a scan stands: at the offset a, with the records l. -/
def ScanAt (J : List UInt8) (R : List (List UInt8) × Int × Int) (a0 : Int) (a : Nat) (l : List (List UInt8)) : Prop :=
  R.1 = l ++ (scanN (J.drop a) l.length).1 ∧ a0 + R.2.1 = a + (scanN (J.drop a) l.length).2.1 ∧ R.2.2 = (scanN (J.drop a) l.length).2.2
theorem ScanAt.start (J : List UInt8) (a : Nat) : ScanAt J (scanN (J.drop a) 0) a a [] := ⟨rfl, rfl, rfl⟩
section
variable {J : List UInt8} {R : List (List UInt8) × Int × Int} {a0 : Int} {a : Nat} {l : List (List UInt8)}
theorem ScanAt.done (h : ScanAt J R a0 a l) (ha : J.length ≤ a) : R.1 = l ∧ a0 + R.2.1 = a ∧ R.2.2 = 0 := by
  obtain ⟨h1, h2, h3⟩ := h
  rw [List.drop_eq_nil_of_le ha, scanN_nil] at h1 h2 h3
  exact ⟨by simpa using h1, by simpa using h2, h3⟩
theorem ScanAt.bad (h : ScanAt J R a0 a l) (ha : a < J.length) (he : (oneJ (J.drop a) l.length).2.2 ≠ 0) : R.1 = l ∧ a0 + R.2.1 = a ∧ R.2.2 = (oneJ (J.drop a) l.length).2.2 := by
  obtain ⟨h1, h2, h3⟩ := h
  rw [scanN_bad (by rw [List.length_drop]; omega) he] at h1 h2 h3
  exact ⟨by simpa using h1, by simpa using h2, h3⟩
theorem ScanAt.good (h : ScanAt J R a0 a l) (ha : a < J.length) (he : (oneJ (J.drop a) l.length).2.2 = 0) :
    ∃ k : Nat, (oneJ (J.drop a) l.length).2.1 = k ∧ 5 ≤ k ∧ a + k ≤ J.length ∧ ScanAt J R a0 (a + k) (l ++ [(oneJ (J.drop a) l.length).1]) := by
  obtain ⟨h1, h2, h3⟩ := h
  obtain ⟨k, e1, e2, e3⟩ := oneJ_size he
  rw [List.length_drop] at e3
  rw [scanN_good (by rw [List.length_drop]; omega) he, e1, Int.toNat_natCast, List.drop_drop] at h1 h2 h3
  refine ⟨k, e1, e2, by omega, ?_, ?_, ?_⟩
  · rw [h1, List.length_append]; simp
  · rw [h2, List.length_append]; simp only [List.length_singleton]; omega
  · rw [h3, List.length_append]; rfl
end
theorem OwnS.cut {w : World} {base : Nat} {ao : Option Addr} {n cap : Nat} {l : List ByteArray} (h : OwnS w base (.slice ao n cap) l) (hn : l.length = n) : StrsAt base w.heap.size w (.slice ao n n) l := by
  obtain ⟨a, c, hv, _, hc⟩ := h.strs
  simp only [Value.slice.injEq] at hv
  obtain ⟨rfl, rfl, rfl⟩ := hv
  exact ⟨ao, l.length, rfl, Nat.le_refl _, hc⟩
theorem topJ_at (j : List UInt8) (h : (topJ j).2.2 = 0) : ∃ a : Nat, (topJ j).2.1 = a ∧ a ≤ j.length := by
  rw [topJ] at h ⊢
  split at h
  · simp at h
  · rename_i h1
    split at h
    · simp at h
    · rename_i h2
      split at h
      · simp at h
      · rename_i h3
        split at h
        · rename_i h4; exact absurd h h4
        · rename_i h4
          split at h
          · simp at h
          · rename_i h5
            rw [if_neg h1, if_neg h2, if_neg h3, if_neg h4, if_neg h5]
            obtain ⟨k, e, _, _⟩ := rInt_rest ⟨j.drop 3, 0⟩
            have e' := congrArg List.length e
            simp only [List.length_drop] at e'
            exact ⟨j.length - (rInt ⟨j.drop 3, 0⟩).2.rest.length, by show (j.length : Int) - _ = _; omega, by omega⟩
end Hub
open Hub

set_option maxHeartbeats 1000000 in
theorem wScan_any (j : ByteArray) (w : World) (hs : j.size ≤ 1099511627776) :
    Calls Try.prog 16 #[.string j] w fun e w' => ∃ v, e = .returned (.tuple #[.int .i64 (scanJ (bl j)).1, v, .int .i64 (scanJ (bl j)).2.2.1, .int .i64 (scanJ (bl j)).2.2.2]) ∧ StrsAt w.heap.size w'.heap.size w' v ((scanJ (bl j)).2.1.map mk) ∧ Below w.heap.size w w' := by
  obtain ⟨i0, hi, hz0, hz1, hz2⟩ := info_parts str_info
  have HT := Lib.hid (fun w => wTop_any j w hs)
  have hsc : scanJ (bl j) = if (topJ (bl j)).2.2 ≠ 0 then (0, [], 0, (topJ (bl j)).2.2) else
    ((topJ (bl j)).1, (scanN ((bl j).drop (topJ (bl j)).2.1.toNat) 0).1, (topJ (bl j)).2.1 + (scanN ((bl j).drop (topJ (bl j)).2.1.toNat) 0).2.1, (scanN ((bl j).drop (topJ (bl j)).2.1.toNat) 0).2.2) := rfl
  have htb : (topJ (bl j)).2.2 = 0 → ∃ a : Nat, (topJ (bl j)).2.1 = a ∧ a ≤ j.size := fun h => by have := topJ_at (bl j) h; rwa [size_bl] at this
  generalize scanJ (bl j) = S at *
  generalize topJ (bl j) = T at *
  by_cases he : T.2.2 = 0
  · have heb : (T.2.2 != 0) = false := by simpa using he
    obtain ⟨a0, ha0, ha1⟩ := htb he
    rw [if_neg (by omega), ha0, Int.toNat_natCast] at hsc
    rw [ha0] at HT
    have HI0 := Lib.hid (ScanAt.start (bl j) a0)
    generalize scanN ((bl j).drop a0) 0 = R at *
    subst hsc
    clear he ha0 htb
    go_enter Try.func16, Try.ntmps16
    go_wp2_with fail
    refine (HT.out _).mono ?_
    rintro e w1 ⟨rfl, hb1⟩
    go_wp2_with fail
    go_loopw [7, 9] (fun u v wr => ∃ (a : Nat) (l : List (List UInt8)), u = .int .i64 a ∧ a ≤ j.size ∧ l.length ≤ a ∧ OwnS wr w.heap.size v (l.map mk) ∧ Below w.heap.size w wr ∧ ScanAt (bl j) R a0 a l) (fun u _ _ => j.size - (intOf u).toNat)
    case atStart => exact ⟨a0, [], rfl, ha1, Nat.zero_le _, OwnS.nil _ _, hb1, HI0.out⟩
    case round =>
      obtain ⟨a, l, rfl, ha, hl, hown, hb, hsc⟩ := hrel
      have hlm : (l.map mk).length = l.length := by simp
      obtain ⟨ao, cap, hu, hcap, hg⟩ := hown.shape
      rw [hlm] at hu hcap hg
      subst hu
      have hJ : (bl j).length = j.size := size_bl j
      have HB := Lib.hid hb.size
      have hl1 : (l.length : Int) ≤ (j.size : Int) := by omega
      have hl2 : (l.length : Int) ≤ (cap : Int) := by omega
      by_cases hlt : a < j.size
      · have hbd := Lib.hid (fun h => hsc.bad (by omega) h)
        have hgd := Lib.hid (fun h => hsc.good (by omega) h)
        have HNx := Lib.hid (fun w => wNext_any (j.extract a j.size) l.length w (by rw [ByteArray.size_extract]; omega) (by omega))
        rw [bl_drop] at HNx
        generalize oneJ ((bl j).drop a) l.length = o at *
        by_cases ho : o.2.2 = 0
        · obtain ⟨k, hk1, hk2, hk3, hsc'⟩ := hgd.out ho
          rw [hk1] at HNx
          have hob : (o.2.2 != 0) = false := by simpa using ho
          have HS := Lib.hid hsc'
          have HLM := Lib.hid hlm
          clear hbd hgd hk1 ho hsc' hsc hlm
          go_wp2_with fail
          refine (HNx.out _).mono ?_
          rintro e w2 ⟨rfl, hb2⟩
          have hown2 := hown.below hb2 (Nat.le_refl _)
          have HB2 := Lib.hid hb2.size
          go_wp2_with (at_builtin; refine wpList_append_own _ rfl _ _ 28 rfl w.heap.size 9 i0 (.string ByteArray.empty) 1 16 Try.underlying28 hi hz0 hz1 hz2 rfl (by decide) _ _ _ rfl (OwnS.alloc hown2 _) ⟨w2.heap.size, 0, none⟩ 1 1 [.string (mk o.1)] rfl rfl ?c1 ?c2 ?c3 ?c4 ?c5 ?_)
          case c1 =>
            intro j u hj
            match j, hj with
            | 0, hj => simp at hj; subst hj; simp [Addr.add]
          case c2 => intro u hu; simp at hu; subst hu; rfl
          case c3 => rw [HLM.out]; unfold maxLen; omega
          case c4 => rw [HLM.out]; omega
          case c5 => have := HB2.out; have := HB.out; simp; omega
          intro v' w4 hown' hgrow _
          go_wp2_with fail
          go_roundw
          case rel =>
            refine ⟨a + k, l ++ [o.1], by go_num, by omega, by simp; omega, ?_, ?_, HS.out⟩
            · unfold OwnS
              rw [List.map_append, List.length_append, List.map_append, List.length_map, List.map_map]; exact hown'
            · exact ((hb.trans (hb2.mono HB.out)).alloc (Nat.le_trans HB.out HB2.out) _).grown hgrow (by have := HB2.out; have := HB.out; simp; omega) (fun g hg => (World.ownsRow.lt hown2 g hg).1)
          case measure => simp [intOf]; omega
        · obtain ⟨h1, h2, h3⟩ := hbd.out ho
          have hob : (o.2.2 != 0) = true := by simpa using ho
          have HOw := Lib.hid hown
          replace hlm := Lib.hid hlm
          clear hbd hgd ho hsc hown
          go_wp2_with fail
          refine (HNx.out _).mono ?_
          rintro e w2 ⟨rfl, hb2⟩
          go_wp2_with fail
          go_region
          all_goals go_wp2
          all_goals refine bodyPost_ret (v := .tuple #[.int .i64 T.1, .slice ao l.length l.length, .int .i64 (a : Int), .int .i64 o.2.2]) ?_ rfl ⟨_, by rw [h2, h3], by rw [h1]; exact (OwnS.cut (HOw.out.below (Below.drew' hb2) (Nat.le_refl _)) hlm.out), Below.drew' (hb.trans (hb2.mono HB.out))⟩
          all_goals simp [results, Try.results16, go_sem]
      · obtain ⟨h1, h2, h3⟩ := hsc.done (by omega)
        have HOw := Lib.hid hown
        replace hlm := Lib.hid hlm
        clear hsc hown
        go_wp2_with fail
        go_region
        all_goals go_wp2
        all_goals refine bodyPost_ret (v := .tuple #[.int .i64 T.1, .slice ao l.length l.length, .int .i64 (a : Int), .int .i64 0]) ?_ rfl ⟨_, by rw [h2, h3], by rw [h1]; exact (OwnS.cut HOw.out hlm.out), Below.drew' hb⟩
        all_goals simp [results, Try.results16, go_sem]
  · have heb : (T.2.2 != 0) = true := by simpa using he
    rw [if_pos he] at hsc
    subst hsc
    clear he htb
    go_enter Try.func16, Try.ntmps16
    go_wp2_with fail
    refine (HT.out _).mono ?_
    rintro e w1 ⟨rfl, hb1⟩
    go_wp2_with fail
    refine bodyPost_ret (v := .tuple #[.int .i64 0, .slice none 0 0, .int .i64 0, .int .i64 T.2.2]) ?_ rfl ⟨_, rfl, StrsAt.nil _ _ _, hb1⟩
    simp [results, Try.results16, go_sem]
end Go.Proofs.Ytnglepapodncbaa
