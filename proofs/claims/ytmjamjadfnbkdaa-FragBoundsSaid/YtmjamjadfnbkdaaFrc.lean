/-
  Fragments: two lists of strings are compared; the walks of what splits a message, the program's and the reference's.
-/
import Derived.Test.YtmjamjadfnbkdaaFrb
open Go Go.RowKit Go.Proofs
namespace Go.Proofs.Ytmjamjadfnbkdaa
namespace Hub
/-- How many pieces a message has. -/
def cntS (s : ByteArray) : Nat := if s.size = 0 then 1 else (s.size + 63) / 64
/-- The i-th piece of a message of n pieces. -/
def pieceF (s : ByteArray) (id : Int) (n i : Nat) : ByteArray := strOfNums [id, (i : Int), (n : Int)] ++ s.extract (64 * i) (min s.size (64 * (i + 1)))
def pcsN (s : ByteArray) (id : Int) (n k : Nat) : List ByteArray := (List.range k).map (pieceF s id n)
def splitF (s : ByteArray) (id : Int) : List ByteArray × Int :=
  if 1000 < s.size then ([], 3) else if id < 0 ∨ 255 < id then ([], 2) else (pcsN s id (cntS s) (cntS s), 0)
theorem pcsN_succ (s : ByteArray) (id : Int) (n k : Nat) : pcsN s id n (k + 1) = pcsN s id n k ++ [pieceF s id n k] := by
  rw [pcsN, List.range_succ, List.map_append]; rfl
theorem pcsN_length (s : ByteArray) (id : Int) (n k : Nat) : (pcsN s id n k).length = k := by simp [pcsN]
theorem cntS_pos (s : ByteArray) : 1 ≤ cntS s := by unfold cntS; split <;> omega
theorem cntS_le (s : ByteArray) (h : s.size ≤ 1000) : cntS s ≤ 16 := by unfold cntS; split <;> omega
theorem cntS_max (s : ByteArray) : max (1 : Int) (((s.size : Int) + 64 - 1) / 64) = (cntS s : Int) := by
  unfold cntS; split <;> omega
theorem cntS_quo (s : ByteArray) (h : ¬ s.size = 0) : ((s.size : Int) + 64 - 1) / 64 = (cntS s : Int) := by
  rw [cntS, if_neg h]; omega
theorem cntS_zero (s : ByteArray) (h : s.size = 0) : cntS s = 1 := by rw [cntS, if_pos h]
theorem piece_eq (s : ByteArray) (id : Int) (n i : Nat) : strOfNums [id, (i : Int), (n : Int)] ++ s.extract (i * 64) (min (s.size : Int) (((i : Int) + 1) * 64)).toNat = pieceF s id n i := by
  unfold pieceF
  rw [show i * 64 = 64 * i by omega, show (min (s.size : Int) (((i : Int) + 1) * 64)).toNat = min s.size (64 * (i + 1)) by omega]
theorem piece_cut (s : ByteArray) (i : Nat) (h : i < cntS s) : 64 * i ≤ s.size := by
  unfold cntS at h; split at h <;> omega
end Hub
open Hub
/-- Two lists of strings are the same. -/
theorem pieces_any (v v' : Value) (l l' : List ByteArray) (lo N lo' N' : Nat) (w : World) (hv : StrsAt lo N w v l) (hv' : StrsAt lo' N' w v' l') (hl : l.length ≤ 1099511627776) :
    Calls Try.prog 14 #[v, v'] w fun e w' => e = .returned (.bool (decide (l = l'))) ∧ ∃ n, w' = w.drewN n := by
  obtain ⟨a, cap, rfl, _, hc⟩ := hv
  obtain ⟨a', cap', rfl, _, hc'⟩ := hv'
  have HC := Lib.hid hc
  have HC' := Lib.hid hc'
  clear hc hc'
  by_cases hne : l.length = l'.length
  · have HN := Lib.hid hne
    rw [← hne]
    clear hne
    obtain ⟨L, hL⟩ : ∃ L, l.length = L := ⟨_, rfl⟩
    rw [hL]
    rw [hL] at hl
    have HL := Lib.hid hL
    clear hL
    go_enter Try.func14, Try.ntmps14
    go_wp2_with fail
    go_loopw [13] (fun i wr => ∃ k : Nat, k ≤ L ∧ i = .int .i64 k ∧ l.take k = l'.take k ∧ ∃ n, wr = w.drewN n) (fun i _ => L - (intOf i).toNat)
    case atStart => exact ⟨0, Nat.zero_le _, rfl, rfl, 0, rfl⟩
    case round =>
      obtain ⟨k, hk, rfl, hk2, n, rfl⟩ := hrel
      have HK := Lib.hid hk2
      clear hk2
      by_cases hlt : k < L
      · have h1 : k < l.length := by rw [HL.out]; exact hlt
        have h2 : k < l'.length := by rw [← HN.out, HL.out]; exact hlt
        obtain ⟨b, off, rfl, _, hbN, hcell⟩ := HC.out (by intro h; rw [h] at h1; simp at h1)
        obtain ⟨b', off', rfl, _, hbN', hcell'⟩ := HC'.out (by intro h; rw [h] at h2; simp at h2)
        have e1 := hcell k h1
        have e2 := hcell' k h2
        have HT := Lib.hid (show l.take (k + 1) = l.take k ++ [l[k]] from List.take_succ_eq_append_getElem h1)
        have HT' := Lib.hid (show l'.take (k + 1) = l'.take k ++ [l'[k]] from List.take_succ_eq_append_getElem h2)
        have HG := Lib.hid (fun h : l = l' => show l[k] = l'[k] from by subst h; rfl)
        clear hcell hcell'
        generalize l[k] = x at *
        generalize l'[k] = y at *
        clear h1 h2
        by_cases hxy : x = y
        · have hb : (!(x.toList == y.toList)) = false := by rw [beq_of_eq hxy]; rfl
          have hb2 : (x.toList == y.toList) = true := beq_of_eq hxy
          have HXY := Lib.hid hxy
          clear hxy
          go_wp2_with fail
          go_quiet (fail)
          go_wp2_with fail
          go_roundw
          case rel => exact ⟨k + 1, by omega, by go_num, by rw [HT.out, HT'.out, HK.out, HXY.out], _, rfl⟩
          case measure => simp [intOf]; omega
        · have hb : (!(x.toList == y.toList)) = true := by rw [beq_of_ne hxy]; rfl
          have hb2 : (x.toList == y.toList) = false := beq_of_ne hxy
          have HXY := Lib.hid (show ¬ l = l' from fun h => hxy (HG.out h))
          clear hxy
          go_wp2_with fail
          go_quiet (fail)
          go_wp2_with fail
          go_ret
          exact ⟨by rw [decide_eq_false HXY.out]; rfl, n + _, drewN_add _ _ _⟩
      · obtain rfl : k = L := by omega
        go_wp2_with fail
        go_ret
        have he : l = l' := by
          have h1 := HK.out
          rw [List.take_of_length_le (by rw [HL.out]; omega), List.take_of_length_le (by rw [← HN.out, HL.out]; omega)] at h1
          exact h1
        exact ⟨by rw [decide_eq_true he]; rfl, _, rfl⟩
  · have hb : ((l.length : Int) != (l'.length : Int)) = true := by simp; omega
    have hd : ¬ l = l' := fun h => hne (by rw [h])
    rw [decide_eq_false hd]
    clear hne hd
    go_enter Try.func14, Try.ntmps14
    go_wp2_with fail
    go_ret
    exact ⟨rfl, 0, rfl⟩

set_option maxHeartbeats 1000000 in
theorem split_any (s : ByteArray) (id : Int) (w : World) (hs : s.size ≤ 1099511627776) :
    Calls Try.prog 12 #[.string s, .int .i64 id] w fun e w' => ∃ u, e = .returned (.tuple #[u, .int .i64 (splitF s id).2]) ∧ StrsAt w.heap.size w'.heap.size w' u (splitF s id).1 ∧ Below w.heap.size w w' := by
  obtain ⟨j0, hj, hy0, hy1, hy2⟩ := info_parts str_info
  have hk := conv_lit3 (P := Try.prog) 46 9 5 5 Try.underlying46 Try.underlying5 Try.underlying9
  unfold splitF
  by_cases h1 : 1000 < s.size
  · rw [if_pos h1]
    have h1i : (1000 : Int) < (s.size : Int) := by omega
    go_enter Try.func12, Try.ntmps12
    go_wp2_with fail
    go_ret2
    exact ⟨_, rfl, StrsAt.nil _ _ _, Below.refl _ _⟩
  · rw [if_neg h1]
    have h1i : ¬ (1000 : Int) < (s.size : Int) := by omega
    by_cases h2 : id < 0
    · rw [if_pos (Or.inl h2)]
      have d2 : decide (id < 0) = true := decide_eq_true h2
      go_enter Try.func12, Try.ntmps12
      go_wp2_with fail
      go_ret2
      exact ⟨_, rfl, StrsAt.nil _ _ _, Below.refl _ _⟩
    · have d2 : decide (id < 0) = false := decide_eq_false h2
      by_cases h3 : 255 < id
      · rw [if_pos (Or.inr h3)]
        have d3 : decide (255 < id) = true := decide_eq_true h3
        go_enter Try.func12, Try.ntmps12
        go_wp2_with fail
        go_ret2
        exact ⟨_, rfl, StrsAt.nil _ _ _, Below.refl _ _⟩
      · have d3 : decide (255 < id) = false := decide_eq_false h3
        rw [if_neg (by omega)]
        have hwd : wrap64 ((s.size : Int) + 64) = (s.size : Int) + 64 := IntWalk.wrap64_in _ ⟨by omega, by omega⟩
        have hwe : wrap64 ((s.size : Int) + 63) = (s.size : Int) + 63 := IntWalk.wrap64_in _ ⟨by omega, by omega⟩
        have hcm := cntS_max s
        have hc1 := cntS_pos s
        have hc2 := cntS_le s (by omega)
        have HCut := Lib.hid (fun i h => piece_cut s i h)
        generalize cntS s = n at *
        go_enter Try.func12, Try.ntmps12
        go_wp2_with fail
        go_loopw [7, 26] (fun u i wr => ∃ k : Nat, k ≤ n ∧ i = .int .i64 k ∧ OwnS wr w.heap.size u (pcsN s id n k) ∧ Below w.heap.size w wr) (fun _ i _ => n - (intOf i).toNat)
        case atStart => exact ⟨0, Nat.zero_le _, rfl, OwnS.nil _ _, Below.refl _ _⟩
        case round =>
          obtain ⟨k, hk, rfl, hS, hb⟩ := hrel
          by_cases hlt : k < n
          · have hcut := HCut.out k hlt
            have HS := Lib.hid hS
            have HLen := Lib.hid (pcsN_length s id n k)
            have HSuc := Lib.hid (pcsN_succ s id n k)
            have hki : (k : Int) < (n : Int) := by omega
            have w1 : wrap64 ((k : Int) * 64) = (k : Int) * 64 := IntWalk.wrap64_in _ ⟨by omega, by omega⟩
            have w2 : wrap64 (((k : Int) + 1) * 64) = ((k : Int) + 1) * 64 := IntWalk.wrap64_in _ ⟨by omega, by omega⟩
            have m1 : id % 256 = id := by omega
            have m2 : (k : Int) % 256 = (k : Int) := by omega
            have m3 : (n : Int) % 256 = (n : Int) := by omega
            have hle : (k : Int) * 64 ≤ min (s.size : Int) (((k : Int) + 1) * 64) := by omega
            have hl2 : min (s.size : Int) (((k : Int) + 1) * 64) ≤ (s.size : Int) := by omega
            have hl0 : 0 ≤ (k : Int) * 64 := by omega
            clear hS
            have HP := Lib.hid (piece_eq s id n k)
            have hz3 : (strOfNums [id, (k : Int), (n : Int)]).size = 3 := rfl
            have hzE : (s.extract (k * 64) (min (s.size : Int) (((k : Int) + 1) * 64)).toNat).size ≤ 1000 := by rw [ByteArray.size_extract]; omega
            go_wp2_with (at_builtin; refine wpList_append_own _ rfl _ _ 23 rfl w.heap.size 9 j0 (.string ByteArray.empty) 1 16 Try.underlying23 hj hy0 hy1 hy2 rfl (by decide) _ _ _ rfl (OwnS.alloc (OwnS.alloc HS.out _) _) ⟨wr.heap.size + 1, 0, none⟩ 1 1 [.string (strOfNums [id, (k : Int), (n : Int)] ++ s.extract (k * 64) (min (s.size : Int) (((k : Int) + 1) * 64)).toNat)] rfl rfl ?c1 ?c2 ?c3 ?c4 ?c5 ?_)
            case c1 =>
              intro j u hj
              match j, hj with
              | 0, hj => simp at hj; subst hj; simp [Addr.add]
            case c2 => intro u hu; simp at hu; subst hu; rfl
            case c3 => rw [HLen.out]; unfold maxLen; omega
            case c4 => rw [HLen.out]; omega
            case c5 => have := hb.size; simp; omega
            intro v' w4 hown' hgrow _
            have hS4 : OwnS w4 w.heap.size v' (pcsN s id n (k + 1)) := by
              rw [HP.out] at hown'
              unfold OwnS
              rw [HSuc.out, List.length_append, List.map_append]; exact hown'
            have hz := hb.size
            have hb4 : Below w.heap.size w w4 := ((hb.alloc hz _).alloc (by rw [World.size_alloc]; omega) _).grown hgrow (by simp; omega) (fun m hm => by have := (World.ownsRow.lt HS.out m hm).1; omega)
            have HS4 := Lib.hid hS4
            have HB4 := Lib.hid hb4
            clear hS4 hb4 hown' hgrow hb
            go_wp2_with fail
            go_roundw
            case rel => exact ⟨k + 1, by omega, by go_num, HS4.out, HB4.out⟩
            case measure => simp [intOf]; omega
          · obtain rfl : k = n := by omega
            go_wp2_with fail
            go_ret2
            exact ⟨_, rfl, hS.strs, hb⟩
end Go.Proofs.Ytmjamjadfnbkdaa
