/-
  Fragments: the reference's walk of what splits a message.
-/
import Derived.Test.YtmjamjadfnbkdaaFrc
open Go Go.RowKit Go.Proofs
namespace Go.Proofs.Ytmjamjadfnbkdaa
namespace Hub
theorem newsS (w : World) (x : ByteArray) (T : TypeId) (k : Nat) (hk : k = w.heap.size) : ∀ j u, [Value.string x][j]? = some u → (w.alloc (.cells #[.string x] T)).cell? ((⟨k, 0, none⟩ : Addr).add j) = some u := by
  intro j u hj
  subst hk
  match j, hj with
  | 0, hj => simp at hj; subst hj; simp [Addr.add]
theorem oneS (x : ByteArray) : ∀ u ∈ [Value.string x], u.oneCell' = true := by
  intro u hu; simp at hu; subst hu; rfl
end Hub
open Hub
set_option maxHeartbeats 2000000 in
theorem xSplit_any (s : ByteArray) (id : Int) (w : World) (hs : s.size ≤ 1099511627776) :
    Calls Try.prog 13 #[.string s, .int .i64 id] w fun e w' => ∃ u, e = .returned (.tuple #[u, .int .i64 (splitF s id).2]) ∧ StrsAt w.heap.size w'.heap.size w' u (splitF s id).1 ∧ Below w.heap.size w w' := by
  obtain ⟨j0, hj, hy0, hy1, hy2⟩ := info_parts str_info
  have hk := conv_lit3 (P := Try.prog) 46 9 5 5 Try.underlying46 Try.underlying5 Try.underlying9
  have hkd := conv_lit3d (P := Try.prog) 46 9 5 5 Try.underlying46 Try.underlying5 Try.underlying9
  unfold splitF
  by_cases h1 : 1000 < s.size
  · rw [if_pos h1]
    have h1i : (1000 : Int) < (s.size : Int) := by omega
    go_enter Try.func13, Try.ntmps13
    go_wp2_with fail
    go_ret2
    exact ⟨_, rfl, StrsAt.nil _ _ _, Below.refl _ _⟩
  · rw [if_neg h1]
    have h1i : ¬ (1000 : Int) < (s.size : Int) := by omega
    by_cases h2 : id < 0
    · rw [if_pos (Or.inl h2)]
      have d2 : decide (id < 0) = true := decide_eq_true h2
      go_enter Try.func13, Try.ntmps13
      go_wp2_with fail
      go_ret2
      exact ⟨_, rfl, StrsAt.nil _ _ _, Below.refl _ _⟩
    · have d2 : decide (id < 0) = false := decide_eq_false h2
      by_cases h3 : 255 < id
      · rw [if_pos (Or.inr h3)]
        have d3 : decide (255 < id) = true := decide_eq_true h3
        go_enter Try.func13, Try.ntmps13
        go_wp2_with fail
        go_ret2
        exact ⟨_, rfl, StrsAt.nil _ _ _, Below.refl _ _⟩
      · have d3 : decide (255 < id) = false := decide_eq_false h3
        rw [if_neg (by omega)]
        have hwd : wrap64 ((s.size : Int) + 64) = (s.size : Int) + 64 := IntWalk.wrap64_in _ ⟨by omega, by omega⟩
        have hwe : wrap64 ((s.size : Int) + 63) = (s.size : Int) + 63 := IntWalk.wrap64_in _ ⟨by omega, by omega⟩
        have hcm := cntS_quo s
        have hc0 := cntS_zero s
        have hc1 := cntS_pos s
        have hc2 := cntS_le s (by omega)
        have HCut := Lib.hid (fun i h => piece_cut s i h)
        have hq : ((s.size : Int) + 64 - 1) / 64 = 0 ∧ cntS s = 1 ∨ ((s.size : Int) + 64 - 1) / 64 = (cntS s : Int) ∧ ((cntS s : Int) == 0) = false := by
          by_cases hz : s.size = 0
          · exact .inl ⟨by omega, hc0 hz⟩
          · exact .inr ⟨hcm hz, by simp; omega⟩
        clear hcm hc0
        generalize cntS s = n at *
        rcases hq with ⟨hq, hq2⟩ | ⟨hq, hq2⟩
        · subst hq2
          go_enter Try.func13, Try.ntmps13
          go_wp2_with fail
          go_loopw [7, 8] (fun u i wr => ∃ k : Nat, k ≤ 1 ∧ i = .int .i64 k ∧ OwnS wr w.heap.size u (pcsN s id 1 k) ∧ Below w.heap.size w wr) (fun _ i _ => 1 - (intOf i).toNat)
          case atStart => exact ⟨0, Nat.zero_le _, rfl, OwnS.nil _ _, Below.refl _ _⟩
          case round =>
            obtain ⟨k, hk, rfl, hS, hb⟩ := hrel
            by_cases hlt : k < 1
            · have hcut := HCut.out k hlt
              have HS := Lib.hid hS
              have HLen := Lib.hid (pcsN_length s id 1 k)
              have HSuc := Lib.hid (pcsN_succ s id 1 k)
              have hki : (k : Int) < (1 : Int) := by omega
              have w1 : wrap64 ((k : Int) * 64) = (k : Int) * 64 := IntWalk.wrap64_in _ ⟨by omega, by omega⟩
              have w2 : wrap64 (((k : Int) + 1) * 64) = ((k : Int) + 1) * 64 := IntWalk.wrap64_in _ ⟨by omega, by omega⟩
              have m1 : id % 256 = id := by omega
              have m2 : (k : Int) % 256 = (k : Int) := by omega
              have m3 : (1 : Int) % 256 = (1 : Int) := by omega
              have v0 : IntKind.i64.wrap ((k : Int) * 64) = (k : Int) * 64 := IntWalk.i64_in _ ⟨by omega, by omega⟩
              have vt : ((k : Int) * 64).toNat = k * 64 := by omega
              have vb : ¬ 9223372036854775807 < 3 + (s.size - k * 64) := by omega
              have v1 : IntKind.u8.wrap id = id := m1
              have v2 : IntKind.u8.wrap (k : Int) = (k : Int) := m2
              have v3 : IntKind.u8.wrap (1 : Int) = (1 : Int) := m3
              have hl0 : 0 ≤ (k : Int) * 64 := by omega
              have HP := Lib.hid (show strOfNums [id, (k : Int), (1 : Int)] ++ s.extract (k * 64) (min (s.size : Int) (((k : Int) + 1) * 64)).toNat = pieceF s id 1 k from piece_eq s id 1 k)
              have hz3 : (strOfNums [id, (k : Int), (1 : Int)]).size = 3 := rfl
              have hB := hb.size
              by_cases hend : (s.size : Int) < ((k : Int) + 1) * 64
              · have hmin : min (s.size : Int) (((k : Int) + 1) * 64) = (s.size : Int) := by omega
                have hle : (k : Int) * 64 ≤ (s.size : Int) := by omega
                rw [hmin, Int.toNat_natCast] at HP
                have hzE : (s.extract (k * 64) s.size).size ≤ 1000 := by rw [ByteArray.size_extract]; omega
                have HOw := Lib.hid (OwnS.alloc (OwnS.alloc (OwnS.drew hS) (.cells #[.int .u8 id, .int .u8 k, .int .u8 (1 : Int)] 5)) (.cells #[.string (strOfNums [id, (k : Int), (1 : Int)] ++ s.extract (k * 64) s.size)] 9))
                have HBw := Lib.hid (fun w6 (h : (((wr.drew).alloc (.cells #[.int .u8 id, .int .u8 k, .int .u8 (1 : Int)] 5)).alloc (.cells #[.string (strOfNums [id, (k : Int), (1 : Int)] ++ s.extract (k * 64) s.size)] 9)).grownBy w6 u7.ownBlock) => ((((Below.drew' hb).alloc (show w.heap.size ≤ wr.drew.heap.size from hB) _).alloc (by rw [World.size_alloc]; have : w.heap.size ≤ wr.drew.heap.size := hB; omega) _).grown h (by rw [World.size_alloc, World.size_alloc]; have : w.heap.size ≤ wr.drew.heap.size := hB; omega) (fun m hm => by have := (World.ownsRow.lt HS.out m hm).1; omega) : Below w.heap.size w w6))
                clear hS hb
                go_wp2_with fail
                go_region_law (refine step_append_lies _ rfl _ _ 23 rfl w.heap.size 9 j0 (.string ByteArray.empty) 1 16 Try.underlying23 hj hy0 hy1 hy2 rfl (by decide) u7 _ _ (by simp [Act.eval]) HOw.out ⟨wr.heap.size + 1, 0, none⟩ 1 1 [.string (strOfNums [id, (k : Int), (1 : Int)] ++ s.extract (k * 64) s.size)] (by simp [Act.eval]) rfl (newsS _ _ _ _ (by simp)) (oneS _) (by decide) (by rw [HLen.out]; unfold maxLen; omega) (by rw [HLen.out]; omega) (by simp; omega) _ rfl ?_; intro g6 cap6 w6 hown6 hgrow6 _ hlt6)
                all_goals
                  have hS6 : OwnS w6 w.heap.size (.slice (some ⟨g6, 0, none⟩) (k + 1) cap6) (pcsN s id 1 (k + 1)) := by
                    rw [HP.out, HLen.out] at hown6
                    unfold OwnS
                    rw [HSuc.out, List.length_append, HLen.out, List.map_append]; exact hown6
                  have hB6 := HBw.out _ hgrow6
                  rw [HLen.out]
                  clear hown6 hgrow6 HS HOw HBw
                  go_wp2_with fail
                  go_roundw
                  case rel => exact ⟨k + 1, by omega, by go_num, hS6, hB6⟩
                  case measure => simp [intOf]; omega
              · have hmin : min (s.size : Int) (((k : Int) + 1) * 64) = ((k : Int) + 1) * 64 := by omega
                have hle : (k : Int) * 64 ≤ ((k : Int) + 1) * 64 := by omega
                have hle2 : ((k : Int) + 1) * 64 ≤ (s.size : Int) := by omega
                have vn0 : 0 ≤ ((k : Int) + 1) * 64 := by omega
                have vn1 : (k : Int) ≤ (k : Int) + 1 := by omega
                have vt2 : (((k : Int) + 1) * 64).toNat = (k + 1) * 64 := by omega
                have vb2 : ¬ 9223372036854775807 < 3 + (min ((k + 1) * 64) s.size - k * 64) := by omega
                rw [hmin, vt2] at HP
                have hzE : (s.extract (k * 64) ((k + 1) * 64)).size ≤ 1000 := by rw [ByteArray.size_extract]; omega
                have HOw := Lib.hid (OwnS.alloc (OwnS.alloc (OwnS.drew hS) (.cells #[.int .u8 id, .int .u8 k, .int .u8 (1 : Int)] 5)) (.cells #[.string (strOfNums [id, (k : Int), (1 : Int)] ++ s.extract (k * 64) ((k + 1) * 64))] 9))
                have HBw := Lib.hid (fun w6 (h : (((wr.drew).alloc (.cells #[.int .u8 id, .int .u8 k, .int .u8 (1 : Int)] 5)).alloc (.cells #[.string (strOfNums [id, (k : Int), (1 : Int)] ++ s.extract (k * 64) ((k + 1) * 64))] 9)).grownBy w6 u7.ownBlock) => ((((Below.drew' hb).alloc (show w.heap.size ≤ wr.drew.heap.size from hB) _).alloc (by rw [World.size_alloc]; have : w.heap.size ≤ wr.drew.heap.size := hB; omega) _).grown h (by rw [World.size_alloc, World.size_alloc]; have : w.heap.size ≤ wr.drew.heap.size := hB; omega) (fun m hm => by have := (World.ownsRow.lt HS.out m hm).1; omega) : Below w.heap.size w w6))
                clear hS hb
                go_wp2_with fail
                go_region_law (refine step_append_lies _ rfl _ _ 23 rfl w.heap.size 9 j0 (.string ByteArray.empty) 1 16 Try.underlying23 hj hy0 hy1 hy2 rfl (by decide) u7 _ _ (by simp [Act.eval]) HOw.out ⟨wr.heap.size + 1, 0, none⟩ 1 1 [.string (strOfNums [id, (k : Int), (1 : Int)] ++ s.extract (k * 64) ((k + 1) * 64))] (by simp [Act.eval]) rfl (newsS _ _ _ _ (by simp)) (oneS _) (by decide) (by rw [HLen.out]; unfold maxLen; omega) (by rw [HLen.out]; omega) (by simp; omega) _ rfl ?_; intro g6 cap6 w6 hown6 hgrow6 _ hlt6)
                all_goals
                  have hS6 : OwnS w6 w.heap.size (.slice (some ⟨g6, 0, none⟩) (k + 1) cap6) (pcsN s id 1 (k + 1)) := by
                    rw [HP.out, HLen.out] at hown6
                    unfold OwnS
                    rw [HSuc.out, List.length_append, HLen.out, List.map_append]; exact hown6
                  have hB6 := HBw.out _ hgrow6
                  rw [HLen.out]
                  clear hown6 hgrow6 HS HOw HBw
                  go_wp2_with fail
                  go_roundw
                  case rel => exact ⟨k + 1, by omega, by go_num, hS6, hB6⟩
                  case measure => simp [intOf]; omega
            · obtain rfl : k = 1 := by omega
              go_wp2_with fail
              go_ret2
              exact ⟨_, rfl, hS.strs, hb⟩
        · go_enter Try.func13, Try.ntmps13
          go_wp2_with fail
          go_loopw [7, 8] (fun u i wr => ∃ k : Nat, k ≤ n ∧ i = .int .i64 k ∧ OwnS wr w.heap.size u (pcsN s id n k) ∧ Below w.heap.size w wr) (fun _ i _ => n - (intOf i).toNat)
          case atStart => exact ⟨0, Nat.zero_le _, rfl, OwnS.nil _ _, Below.refl _ _⟩
          case round =>
            obtain ⟨k, hk, rfl, hS, hb⟩ := hrel
            by_cases hlt : k < n
            · have hcut := HCut.out k hlt
              have HS := Lib.hid hS
              have HLen := Lib.hid (pcsN_length s id n k)
              have HSuc := Lib.hid (pcsN_succ s id n k)
              have hki : (k : Int) < ((n : Nat) : Int) := by omega
              have w1 : wrap64 ((k : Int) * 64) = (k : Int) * 64 := IntWalk.wrap64_in _ ⟨by omega, by omega⟩
              have w2 : wrap64 (((k : Int) + 1) * 64) = ((k : Int) + 1) * 64 := IntWalk.wrap64_in _ ⟨by omega, by omega⟩
              have m1 : id % 256 = id := by omega
              have m2 : (k : Int) % 256 = (k : Int) := by omega
              have m3 : ((n : Nat) : Int) % 256 = ((n : Nat) : Int) := by omega
              have v0 : IntKind.i64.wrap ((k : Int) * 64) = (k : Int) * 64 := IntWalk.i64_in _ ⟨by omega, by omega⟩
              have vt : ((k : Int) * 64).toNat = k * 64 := by omega
              have vb : ¬ 9223372036854775807 < 3 + (s.size - k * 64) := by omega
              have v1 : IntKind.u8.wrap id = id := m1
              have v2 : IntKind.u8.wrap (k : Int) = (k : Int) := m2
              have v3 : IntKind.u8.wrap ((n : Nat) : Int) = ((n : Nat) : Int) := m3
              have hl0 : 0 ≤ (k : Int) * 64 := by omega
              have HP := Lib.hid (show strOfNums [id, (k : Int), ((n : Nat) : Int)] ++ s.extract (k * 64) (min (s.size : Int) (((k : Int) + 1) * 64)).toNat = pieceF s id n k from piece_eq s id n k)
              have hz3 : (strOfNums [id, (k : Int), ((n : Nat) : Int)]).size = 3 := rfl
              have hB := hb.size
              by_cases hend : (s.size : Int) < ((k : Int) + 1) * 64
              · have hmin : min (s.size : Int) (((k : Int) + 1) * 64) = (s.size : Int) := by omega
                have hle : (k : Int) * 64 ≤ (s.size : Int) := by omega
                rw [hmin, Int.toNat_natCast] at HP
                have hzE : (s.extract (k * 64) s.size).size ≤ 1000 := by rw [ByteArray.size_extract]; omega
                have HOw := Lib.hid (OwnS.alloc (OwnS.alloc (OwnS.drew hS) (.cells #[.int .u8 id, .int .u8 k, .int .u8 ((n : Nat) : Int)] 5)) (.cells #[.string (strOfNums [id, (k : Int), ((n : Nat) : Int)] ++ s.extract (k * 64) s.size)] 9))
                have HBw := Lib.hid (fun w6 (h : (((wr.drew).alloc (.cells #[.int .u8 id, .int .u8 k, .int .u8 ((n : Nat) : Int)] 5)).alloc (.cells #[.string (strOfNums [id, (k : Int), ((n : Nat) : Int)] ++ s.extract (k * 64) s.size)] 9)).grownBy w6 u7.ownBlock) => ((((Below.drew' hb).alloc (show w.heap.size ≤ wr.drew.heap.size from hB) _).alloc (by rw [World.size_alloc]; have : w.heap.size ≤ wr.drew.heap.size := hB; omega) _).grown h (by rw [World.size_alloc, World.size_alloc]; have : w.heap.size ≤ wr.drew.heap.size := hB; omega) (fun m hm => by have := (World.ownsRow.lt HS.out m hm).1; omega) : Below w.heap.size w w6))
                clear hS hb
                go_wp2_with fail
                go_region_law (refine step_append_lies _ rfl _ _ 23 rfl w.heap.size 9 j0 (.string ByteArray.empty) 1 16 Try.underlying23 hj hy0 hy1 hy2 rfl (by decide) u7 _ _ (by simp [Act.eval]) HOw.out ⟨wr.heap.size + 1, 0, none⟩ 1 1 [.string (strOfNums [id, (k : Int), ((n : Nat) : Int)] ++ s.extract (k * 64) s.size)] (by simp [Act.eval]) rfl (newsS _ _ _ _ (by simp)) (oneS _) (by decide) (by rw [HLen.out]; unfold maxLen; omega) (by rw [HLen.out]; omega) (by simp; omega) _ rfl ?_; intro g6 cap6 w6 hown6 hgrow6 _ hlt6)
                all_goals
                  have hS6 : OwnS w6 w.heap.size (.slice (some ⟨g6, 0, none⟩) (k + 1) cap6) (pcsN s id n (k + 1)) := by
                    rw [HP.out, HLen.out] at hown6
                    unfold OwnS
                    rw [HSuc.out, List.length_append, HLen.out, List.map_append]; exact hown6
                  have hB6 := HBw.out _ hgrow6
                  rw [HLen.out]
                  clear hown6 hgrow6 HS HOw HBw
                  go_wp2_with fail
                  go_roundw
                  case rel => exact ⟨k + 1, by omega, by go_num, hS6, hB6⟩
                  case measure => simp [intOf]; omega
              · have hmin : min (s.size : Int) (((k : Int) + 1) * 64) = ((k : Int) + 1) * 64 := by omega
                have hle : (k : Int) * 64 ≤ ((k : Int) + 1) * 64 := by omega
                have hle2 : ((k : Int) + 1) * 64 ≤ (s.size : Int) := by omega
                have vn0 : 0 ≤ ((k : Int) + 1) * 64 := by omega
                have vn1 : (k : Int) ≤ (k : Int) + 1 := by omega
                have vt2 : (((k : Int) + 1) * 64).toNat = (k + 1) * 64 := by omega
                have vb2 : ¬ 9223372036854775807 < 3 + (min ((k + 1) * 64) s.size - k * 64) := by omega
                rw [hmin, vt2] at HP
                have hzE : (s.extract (k * 64) ((k + 1) * 64)).size ≤ 1000 := by rw [ByteArray.size_extract]; omega
                have HOw := Lib.hid (OwnS.alloc (OwnS.alloc (OwnS.drew hS) (.cells #[.int .u8 id, .int .u8 k, .int .u8 ((n : Nat) : Int)] 5)) (.cells #[.string (strOfNums [id, (k : Int), ((n : Nat) : Int)] ++ s.extract (k * 64) ((k + 1) * 64))] 9))
                have HBw := Lib.hid (fun w6 (h : (((wr.drew).alloc (.cells #[.int .u8 id, .int .u8 k, .int .u8 ((n : Nat) : Int)] 5)).alloc (.cells #[.string (strOfNums [id, (k : Int), ((n : Nat) : Int)] ++ s.extract (k * 64) ((k + 1) * 64))] 9)).grownBy w6 u7.ownBlock) => ((((Below.drew' hb).alloc (show w.heap.size ≤ wr.drew.heap.size from hB) _).alloc (by rw [World.size_alloc]; have : w.heap.size ≤ wr.drew.heap.size := hB; omega) _).grown h (by rw [World.size_alloc, World.size_alloc]; have : w.heap.size ≤ wr.drew.heap.size := hB; omega) (fun m hm => by have := (World.ownsRow.lt HS.out m hm).1; omega) : Below w.heap.size w w6))
                clear hS hb
                go_wp2_with fail
                go_region_law (refine step_append_lies _ rfl _ _ 23 rfl w.heap.size 9 j0 (.string ByteArray.empty) 1 16 Try.underlying23 hj hy0 hy1 hy2 rfl (by decide) u7 _ _ (by simp [Act.eval]) HOw.out ⟨wr.heap.size + 1, 0, none⟩ 1 1 [.string (strOfNums [id, (k : Int), ((n : Nat) : Int)] ++ s.extract (k * 64) ((k + 1) * 64))] (by simp [Act.eval]) rfl (newsS _ _ _ _ (by simp)) (oneS _) (by decide) (by rw [HLen.out]; unfold maxLen; omega) (by rw [HLen.out]; omega) (by simp; omega) _ rfl ?_; intro g6 cap6 w6 hown6 hgrow6 _ hlt6)
                all_goals
                  have hS6 : OwnS w6 w.heap.size (.slice (some ⟨g6, 0, none⟩) (k + 1) cap6) (pcsN s id n (k + 1)) := by
                    rw [HP.out, HLen.out] at hown6
                    unfold OwnS
                    rw [HSuc.out, List.length_append, HLen.out, List.map_append]; exact hown6
                  have hB6 := HBw.out _ hgrow6
                  rw [HLen.out]
                  clear hown6 hgrow6 HS HOw HBw
                  go_wp2_with fail
                  go_roundw
                  case rel => exact ⟨k + 1, by omega, by go_num, hS6, hB6⟩
                  case measure => simp [intOf]; omega
            · obtain rfl : k = n := by omega
              go_wp2_with fail
              go_ret2
              exact ⟨_, rfl, hS.strs, hb⟩
end Go.Proofs.Ytmjamjadfnbkdaa
