/-
  The walks of what adds a record, cuts and chooses a journal, the program's.
-/
import Derived.Test.YtnglepapodncbaaJouD
open Go Go.RowKit Go.Proofs
namespace Go.Proofs.Ytnglepapodncbaa
namespace Hub
def addJ (j p : List UInt8) : List UInt8 × Int :=
  if (scanJ j).2.2.2 ≠ 0 then ([], (scanJ j).2.2.2) else if 262144 < p.length then ([], 3) else
  if 1048576 < (j ++ recJ p (scanJ j).2.1.length).length then ([], 3) else (j ++ recJ p (scanJ j).2.1.length, 0)
def cutJ (j : List UInt8) : List UInt8 := j.take (scanJ j).2.2.1.toNat
def wholeJ (j : List UInt8) : Bool := decide ((scanJ j).2.2.2 = 0)
def twoJ (a b : List UInt8) : List UInt8 :=
  if (topJ a).2.2 ≠ 0 ∧ (topJ b).2.2 ≠ 0 then [] else if (topJ a).2.2 ≠ 0 ∨ ((topJ b).2.2 = 0 ∧ (topJ a).1 < (topJ b).1) then b else a
theorem recsJ_length (l : List (List UInt8)) : ∀ n, 5 * l.length ≤ (recsJ l n).length := by
  induction l with
  | nil => intro n; simp [recsJ]
  | cons p l ih =>
    intro n
    have h1 := ih (n + 1)
    have h2 := recJ_length p n
    have h3 := encT_pos p
    rw [recsJ, List.length_append, List.length_cons]; omega
theorem scanJ_bounds (j : List UInt8) : ∃ a : Nat, (scanJ j).2.2.1 = a ∧ a ≤ j.length ∧ (scanJ j).2.1.length ≤ j.length := by
  rw [scanJ]
  split
  · exact ⟨0, rfl, Nat.zero_le _, Nat.zero_le _⟩
  · rename_i h
    obtain ⟨a, h1, h2⟩ := topJ_at j (by simpa using h)
    obtain ⟨t, e1, e2, _, _⟩ := scanN_recs _ (j.drop (topJ j).2.1.toNat) 0 (Nat.le_refl _)
    have e3 := congrArg List.length e1
    have e4 := recsJ_length (scanN (j.drop (topJ j).2.1.toNat) 0).1 0
    rw [List.length_append, List.length_drop, h1, Int.toNat_natCast] at e3
    rw [h1, Int.toNat_natCast] at e2 e4
    refine ⟨a + (recsJ (scanN (j.drop a) 0).1 0).length, ?_, ?_, ?_⟩
    · simp only [h1, Int.toNat_natCast, e2]; omega
    · omega
    · simp only [h1, Int.toNat_natCast]; omega
theorem recJ_le (p : List UInt8) (n : Nat) (h : p.length ≤ 1099511627776) : (recJ p n).length ≤ p.length + 14 := by
  have := enc_length (p.length : Int) (by omega) (by omega)
  rw [recJ_length, encT, List.length_append]; omega
end Hub
open Hub

set_option maxHeartbeats 1000000 in
theorem wAdd_any (j p : ByteArray) (w : World) (hs : j.size ≤ 1099511627776) (hp : p.size ≤ 1099511627700) :
    Calls Try.prog 11 #[.string j, .string p] w fun e w' => e = .returned (.tuple #[.string (mk (addJ (bl j) (bl p)).1), .int .i64 (addJ (bl j) (bl p)).2]) ∧ Below w.heap.size w w' := by
  have HS := Lib.hid (fun w => wScan_any j w hs)
  obtain ⟨a, _, _, hl⟩ := scanJ_bounds (bl j)
  have had : addJ (bl j) (bl p) = if (scanJ (bl j)).2.2.2 ≠ 0 then ([], (scanJ (bl j)).2.2.2) else if 262144 < (bl p).length then ([], 3) else
    if 1048576 < ((bl j) ++ recJ (bl p) (scanJ (bl j)).2.1.length).length then ([], 3) else ((bl j) ++ recJ (bl p) (scanJ (bl j)).2.1.length, 0) := rfl
  generalize addJ (bl j) (bl p) = A at *
  generalize scanJ (bl j) = S at *
  have hpz := size_bl p
  rw [size_bl] at hl
  rw [hpz] at had
  by_cases he : S.2.2.2 = 0
  · have heb : (S.2.2.2 != 0) = false := by simpa using he
    rw [if_neg (by omega)] at had
    by_cases h2 : 262144 < p.size
    · rw [if_pos h2] at had
      subst had
      have h2i : (262144 : Int) < (p.size : Int) := by omega
      clear he
      go_enter Try.func11, Try.ntmps11
      go_wp2_with fail
      refine (HS.out _).mono ?_
      rintro e w1 ⟨v, rfl, hv, hb⟩
      go_wp2_with fail
      go_ret2
      exact ⟨rfl, hb⟩
    · rw [if_neg h2] at had
      have h2i : ¬ (262144 : Int) < (p.size : Int) := by omega
      have HR := Lib.hid (fun w => wRec_any p S.2.1.length w (by omega) (by omega))
      have hrl := recJ_le (bl p) S.2.1.length (by omega)
      have hj : j ++ mk (recJ (bl p) S.2.1.length) = mk (bl j ++ recJ (bl p) S.2.1.length) := by apply bl_inj; rw [bl_append, bl_mk, bl_mk]
      have hjz : (j ++ mk (recJ (bl p) S.2.1.length)).size = (bl j ++ recJ (bl p) S.2.1.length).length := by rw [hj]; rfl
      have hz : (mk (recJ (bl p) S.2.1.length)).size = (recJ (bl p) S.2.1.length).length := rfl
      rw [← hjz] at had
      have HJ := Lib.hid hj
      have hz2 : (mk (recJ (bl p) S.2.1.length)).size ≤ 262200 := by omega
      clear hj hjz hz hrl he
      generalize bl j ++ recJ (bl p) S.2.1.length = O1 at *
      generalize mk (recJ (bl p) S.2.1.length) = K at *
      have hsz : (j ++ K).size = j.size + K.size := ByteArray.size_append
      by_cases h3 : 1048576 < (j ++ K).size
      · rw [if_pos h3] at had
        subst had
        have h3i : (1048576 : Int) < (j.size : Int) + (K.size : Int) := by omega
        have h3j : (1048576 : Int) < ((j ++ K).size : Int) := by omega
        go_enter Try.func11, Try.ntmps11
        go_wp2_with fail
        refine (HS.out _).mono ?_
        rintro e w1 ⟨v, rfl, hv, hb⟩
        obtain ⟨ao, cap, rfl, _, _⟩ := hv
        rw [List.length_map]
        go_wp2_with fail
        refine (HR.out _).mono ?_
        rintro e w2 ⟨rfl, hb2⟩
        go_wp2_with fail
        go_ret2
        exact ⟨rfl, bt hb hb2⟩
      · rw [if_neg h3] at had
        subst had
        have h3i : ¬ (1048576 : Int) < (j.size : Int) + (K.size : Int) := by omega
        have h3j : ¬ (1048576 : Int) < ((j ++ K).size : Int) := by omega
        go_enter Try.func11, Try.ntmps11
        go_wp2_with fail
        refine (HS.out _).mono ?_
        rintro e w1 ⟨v, rfl, hv, hb⟩
        obtain ⟨ao, cap, rfl, _, _⟩ := hv
        rw [List.length_map]
        go_wp2_with fail
        refine (HR.out _).mono ?_
        rintro e w2 ⟨rfl, hb2⟩
        go_wp2_with fail
        first | rw [HJ.out] | skip
        go_ret2
        exact ⟨rfl, bt hb hb2⟩
  · have heb : (S.2.2.2 != 0) = true := by simpa using he
    rw [if_pos he] at had
    subst had
    clear he
    go_enter Try.func11, Try.ntmps11
    go_wp2_with fail
    refine (HS.out _).mono ?_
    rintro e w1 ⟨v, rfl, hv, hb⟩
    go_wp2_with fail
    go_ret2
    exact ⟨rfl, hb⟩

theorem wWhole_any (j : ByteArray) (w : World) (hs : j.size ≤ 1099511627776) :
    Calls Try.prog 19 #[.string j] w fun e w' => e = .returned (.bool (wholeJ (bl j))) ∧ Below w.heap.size w w' := by
  have HS := Lib.hid (fun w => wScan_any j w hs)
  have HW := Lib.hid (show wholeJ (bl j) = ((scanJ (bl j)).2.2.2 == 0) by rw [wholeJ]; by_cases h : (scanJ (bl j)).2.2.2 = 0 <;> simp [h])
  generalize scanJ (bl j) = S at *
  go_enter Try.func19, Try.ntmps19
  go_wp2_with fail
  refine (HS.out _).mono ?_
  rintro e w1 ⟨v, rfl, hv, hb⟩
  go_wp2_with fail
  go_ret
  exact ⟨by rw [HW.out]; rfl, hb⟩

theorem wCut_any (j : ByteArray) (w : World) (hs : j.size ≤ 1099511627776) :
    Calls Try.prog 21 #[.string j] w fun e w' => e = .returned (.string (mk (cutJ (bl j)))) ∧ Below w.heap.size w w' := by
  have HS := Lib.hid (fun w => wScan_any j w hs)
  have hc : cutJ (bl j) = (bl j).take (scanJ (bl j)).2.2.1.toNat := rfl
  obtain ⟨a, h1, h2, _⟩ := scanJ_bounds (bl j)
  rw [h1, Int.toNat_natCast, ← bl_take] at hc
  rw [size_bl] at h2
  have HC := Lib.hid hc
  generalize scanJ (bl j) = S at *
  rw [h1] at HS
  have h3 : (a : Int) ≤ (j.size : Int) := by omega
  clear hc h1
  go_enter Try.func21, Try.ntmps21
  go_wp2_with fail
  refine (HS.out _).mono ?_
  rintro e w1 ⟨v, rfl, hv, hb⟩
  go_wp2_with fail
  go_ret
  exact ⟨by rw [HC.out, mk_bl]; rfl, hb⟩

theorem wTwo_any (a b : ByteArray) (w : World) (hs : a.size ≤ 1099511627776) (hs2 : b.size ≤ 1099511627776) :
    Calls Try.prog 23 #[.string a, .string b] w fun e w' => e = .returned (.string (mk (twoJ (bl a) (bl b)))) ∧ Below w.heap.size w w' := by
  have HA := Lib.hid (fun w => wTop_any a w hs)
  have HB := Lib.hid (fun w => wTop_any b w hs2)
  have hd : mk (twoJ (bl a) (bl b)) = if (topJ (bl a)).2.2 ≠ 0 ∧ (topJ (bl b)).2.2 ≠ 0 then mk [] else if (topJ (bl a)).2.2 ≠ 0 ∨ ((topJ (bl b)).2.2 = 0 ∧ (topJ (bl a)).1 < (topJ (bl b)).1) then b else a := by
    rw [twoJ]; split
    · rfl
    · split <;> rw [mk_bl]
  generalize topJ (bl a) = A at *
  generalize topJ (bl b) = B at *
  generalize mk (twoJ (bl a) (bl b)) = O at *
  by_cases ha : A.2.2 = 0
  · have hab : (A.2.2 == 0) = true := by simpa using ha
    by_cases hb : B.2.2 = 0
    · have hbb : (B.2.2 == 0) = true := by simpa using hb
      have hbn : (B.2.2 != 0) = false := by simpa using hb
      by_cases hg : A.1 < B.1
      · obtain rfl : O = b := by rw [hd, if_neg (by omega), if_pos (.inr ⟨hb, hg⟩)]
        clear hd ha hb
        go_enter Try.func23, Try.ntmps23
        go_wp2_with fail
        refine (HA.out _).mono ?_
        rintro e w1 ⟨rfl, hb1⟩
        go_wp2_with fail
        refine (HB.out _).mono ?_
        rintro e w2 ⟨rfl, hb2⟩
        go_wp2_with fail
        go_ret
        exact ⟨rfl, bt hb1 hb2⟩
      · obtain rfl : O = a := by rw [hd, if_neg (by omega), if_neg (by omega)]
        clear hd ha hb
        go_enter Try.func23, Try.ntmps23
        go_wp2_with fail
        refine (HA.out _).mono ?_
        rintro e w1 ⟨rfl, hb1⟩
        go_wp2_with fail
        refine (HB.out _).mono ?_
        rintro e w2 ⟨rfl, hb2⟩
        go_wp2_with fail
        go_ret
        exact ⟨rfl, bt hb1 hb2⟩
    · have hbb : (B.2.2 == 0) = false := by simpa using hb
      have hbn : (B.2.2 != 0) = true := by simpa using hb
      obtain rfl : O = a := by rw [hd, if_neg (by omega), if_neg (by omega)]
      clear hd ha hb
      go_enter Try.func23, Try.ntmps23
      go_wp2_with fail
      refine (HA.out _).mono ?_
      rintro e w1 ⟨rfl, hb1⟩
      go_wp2_with fail
      refine (HB.out _).mono ?_
      rintro e w2 ⟨rfl, hb2⟩
      go_wp2_with fail
      go_ret
      exact ⟨rfl, bt hb1 hb2⟩
  · have hab : (A.2.2 == 0) = false := by simpa using ha
    by_cases hb : B.2.2 = 0
    · have hbb : (B.2.2 == 0) = true := by simpa using hb
      obtain rfl : O = b := by rw [hd, if_neg (by omega), if_pos (.inl ha)]
      clear hd ha hb
      go_enter Try.func23, Try.ntmps23
      go_wp2_with fail
      refine (HA.out _).mono ?_
      rintro e w1 ⟨rfl, hb1⟩
      go_wp2_with fail
      refine (HB.out _).mono ?_
      rintro e w2 ⟨rfl, hb2⟩
      go_wp2_with fail
      go_ret
      exact ⟨rfl, bt hb1 hb2⟩
    · have hbb : (B.2.2 == 0) = false := by simpa using hb
      obtain rfl : O = mk [] := by rw [hd, if_pos ⟨ha, hb⟩]
      clear hd ha hb
      go_enter Try.func23, Try.ntmps23
      go_wp2_with fail
      refine (HA.out _).mono ?_
      rintro e w1 ⟨rfl, hb1⟩
      go_wp2_with fail
      refine (HB.out _).mono ?_
      rintro e w2 ⟨rfl, hb2⟩
      go_wp2_with fail
      go_ret
      exact ⟨rfl, bt hb1 hb2⟩
end Go.Proofs.Ytnglepapodncbaa
