/-
  The walks of the encodings of strings, booleans and lists, the program's and the reference's.
-/
import Derived.Test.YtbbfbeacgnimpaaWirA
import Derived.Test.YtbbfbeacgnimpaaBld
open Go Go.RowKit Go.Proofs
namespace Go.Proofs.Ytbbfbeacgnimpaa
namespace Hub
/-- The slice v holds the numbers l, in a block from lo on, below N. -/
def IntsAt (lo N : Nat) (w : World) (v : Value) (l : List Int) : Prop :=
  ∃ a cap, v = .slice a l.length cap ∧ (l ≠ [] → ∃ b off, a = some ⟨b, off, none⟩ ∧ lo ≤ b ∧ b < N ∧ ∀ i (h : i < l.length), w.cell? ⟨b, off + i, none⟩ = some (.int .i64 l[i]))
theorem IntsAt.below {lo N M : Nat} {w w' : World} {v : Value} {l : List Int} (h : IntsAt lo N w v l) (hb : Below M w w') (hN : N ≤ M) : IntsAt lo N w' v l := by
  obtain ⟨a, cap, hv, hc⟩ := h
  refine ⟨a, cap, hv, fun hne => ?_⟩
  obtain ⟨b, off, ha, hlo, hbN, hcell⟩ := hc hne
  exact ⟨b, off, ha, hlo, hbN, fun i hi => by rw [hb.cell (p := ⟨b, off + i, none⟩) (by show b < M; omega)]; exact hcell i hi⟩
def IntB (l : List Int) : Prop := ∀ x ∈ l, -9223372036854775808 ≤ x ∧ x ≤ 9223372036854775807
theorem IntB.get {l : List Int} (h : IntB l) {i : Nat} (hi : i < l.length) : -9223372036854775808 ≤ l[i] ∧ l[i] ≤ 9223372036854775807 := h _ (List.getElem_mem hi)
theorem encs_length (l : List Int) (h : IntB l) : (l.flatMap enc).length ≤ 10 * l.length := by
  induction l with
  | nil => simp
  | cons a l ih =>
    rw [List.flatMap_cons, List.length_append, List.length_cons]
    have h1 := enc_length a (h a (by simp)).1 (h a (by simp)).2
    have h2 := ih (fun x hx => h x (by simp [hx]))
    omega
theorem encs_take (l : List Int) (k : Nat) (h : k < l.length) : (l.take (k + 1)).flatMap enc = (l.take k).flatMap enc ++ enc l[k] := by
  rw [List.take_succ_eq_append_getElem h, List.flatMap_append]; simp
theorem encs_take_length (l : List Int) (k : Nat) (hb : IntB l) : ((l.take k).flatMap enc).length ≤ 10 * l.length := by
  have h1 := encs_length (l.take k) (fun x hx => hb x (List.mem_of_mem_take hx))
  have h2 : (l.take k).length ≤ l.length := by simp; omega
  omega
end Hub
open Hub

set_option maxHeartbeats 1000000 in
theorem wInts_any (v : Value) (l : List Int) (lo N : Nat) (w : World) (hv : IntsAt lo N w v l) (hN : N ≤ w.heap.size) (hl : l.length ≤ 8796093022208) (hbd : IntB l) :
    Calls Try.prog 42 #[v] w fun e w' => e = .returned (.string (mk (encL l))) ∧ Below w.heap.size w w' := by
  have HV := Lib.hid hv
  obtain ⟨a, cap, rfl, hc⟩ := hv
  have HC := Lib.hid hc
  have HN := Lib.hid hN
  have HB := Lib.hid hbd
  clear hc hN hbd
  have HI := Lib.hid (fun w => wInt_any (l.length : Int) w (by omega) (by omega))
  have hel := Lib.hid (enc_length (l.length : Int) (by omega) (by omega))
  go_enter Try.func42, Try.ntmps42
  go_wp2_with fail
  refine (HI.out _).mono ?_
  rintro e w1 ⟨rfl, hb1⟩
  have hB0 : IsBld w.heap.size [] w1 := (IsBld.fresh w).below hb1 (Nat.le_refl _)
  go_wp2_with fail
  refine (bldWrite _ [] (mk (enc (l.length : Int))) _ hB0 (by have := hel.out; rw [size_mk]; simp; omega)).mono ?_
  rintro e w2 ⟨rfl, hB1, hb2⟩
  rw [bl_mk, List.nil_append] at hB1
  go_wp2_with fail
  have hbw : Below w.heap.size w w2 := (bt ((Below.refl _ _).alloc (Nat.le_refl _) _) hb1).trans hb2
  go_loopw [12] (fun i wr => ∃ k : Nat, k ≤ l.length ∧ i = .int .i64 k ∧ IsBld w.heap.size (enc (l.length : Int) ++ (l.take k).flatMap enc) wr ∧ Below w.heap.size w wr) (fun i _ => l.length - (intOf i).toNat)
  case atStart => exact ⟨0, Nat.zero_le _, rfl, by simpa using hB1, hbw⟩
  case round =>
    obtain ⟨k, hk, rfl, hB, hb⟩ := hrel
    by_cases hlt : k < l.length
    · obtain ⟨b, off, rfl, _, hbN, hcell⟩ := HC.out (by intro h; rw [h] at hlt; simp at hlt)
      have hck : wr.cell? ⟨b, off + k, none⟩ = some (.int .i64 l[k]) := by
        rw [hb.cell (p := ⟨b, off + k, none⟩) (Nat.lt_of_lt_of_le hbN HN.out)]; exact hcell k hlt
      have hbx := HB.out.get hlt
      have HX := Lib.hid (fun w => wInt_any l[k] w hbx.1 hbx.2)
      have HL := Lib.hid (enc_length l[k] hbx.1 hbx.2)
      have HT := Lib.hid (encs_take l k hlt)
      have HTL := Lib.hid (encs_take_length l k HB.out)
      clear hcell hbx
      generalize l[k] = x at *
      go_wp2_with fail
      refine (HX.out _).mono ?_
      rintro e w3 ⟨rfl, hb3⟩
      have hB3 := hB.below hb3 (Nat.le_refl _)
      go_wp2_with fail
      refine (bldWrite _ _ (mk (enc x)) _ hB3 (by have := hel.out; have := HL.out; have := HTL.out; rw [size_mk, List.length_append]; omega)).mono ?_
      rintro e w4 ⟨rfl, hB4, hb4⟩
      rw [bl_mk, List.append_assoc, ← HT.out] at hB4
      go_wp2_with fail
      go_roundw
      case rel => exact ⟨k + 1, by omega, by go_num, hB4, (bt hb hb3).trans hb4⟩
      case measure => simp [intOf]; omega
    · obtain rfl : k = l.length := by omega
      go_wp2_with fail
      refine (bldString _ _ _ hB).mono ?_
      rintro e w3 ⟨rfl, hb3⟩
      go_wp2_with fail
      go_ret
      exact ⟨ret_str (by simp [encL]), hb.trans hb3⟩

set_option maxHeartbeats 1000000 in
theorem refInts_any (v : Value) (l : List Int) (lo N : Nat) (w : World) (hv : IntsAt lo N w v l) (hN : N ≤ w.heap.size) (hl : l.length ≤ 8796093022208) (hbd : IntB l) :
    Calls Try.prog 48 #[v] w fun e w' => e = .returned (.string (mk (encL l))) ∧ Below w.heap.size w w' := by
  have HV := Lib.hid hv
  obtain ⟨a, cap, rfl, hc⟩ := hv
  have HC := Lib.hid hc
  have HN := Lib.hid hN
  have HB := Lib.hid hbd
  clear hc hN hbd
  have HI := Lib.hid (fun w => refInt_any (l.length : Int) w (by omega) (by omega))
  have hel := Lib.hid (enc_length (l.length : Int) (by omega) (by omega))
  go_enter Try.func48, Try.ntmps48
  go_wp2_with fail
  refine (HI.out _).mono ?_
  rintro e w1 ⟨rfl, hb1⟩
  go_wp2_with fail
  go_loopw [3, 4] (fun s i wr => ∃ k : Nat, k ≤ l.length ∧ i = .int .i64 k ∧ s = .string (mk (enc (l.length : Int) ++ (l.take k).flatMap enc)) ∧ Below w.heap.size w wr) (fun _ i _ => l.length - (intOf i).toNat)
  case atStart => exact ⟨0, Nat.zero_le _, rfl, by simp, hb1⟩
  case round =>
    obtain ⟨k, hk, rfl, rfl, hb⟩ := hrel
    by_cases hlt : k < l.length
    · obtain ⟨b, off, rfl, _, hbN, hcell⟩ := HC.out (by intro h; rw [h] at hlt; simp at hlt)
      have hck : wr.cell? ⟨b, off + k, none⟩ = some (.int .i64 l[k]) := by
        rw [hb.cell (p := ⟨b, off + k, none⟩) (Nat.lt_of_lt_of_le hbN HN.out)]; exact hcell k hlt
      have hbx := HB.out.get hlt
      have HX := Lib.hid (fun w => refInt_any l[k] w hbx.1 hbx.2)
      have HT := Lib.hid (encs_take l k hlt)
      have h1 : (mk (enc (l.length : Int) ++ (l.take k).flatMap enc)).size ≤ 10 + 10 * l.length := by
        have := encs_take_length l k HB.out; have := hel.out; rw [size_mk, List.length_append]; omega
      have h2 : (mk (enc l[k])).size ≤ 10 := enc_length l[k] hbx.1 hbx.2
      have he : mk (enc (l.length : Int) ++ (l.take k).flatMap enc) ++ mk (enc l[k]) = mk (enc (l.length : Int) ++ (l.take (k + 1)).flatMap enc) := by
        apply bl_inj; rw [bl_append, bl_mk, bl_mk, bl_mk, encs_take l k hlt, List.append_assoc]
      have HE := Lib.hid he
      clear hcell hbx he
      generalize mk (enc l[k]) = X at *
      generalize mk (enc (l.length : Int) ++ (l.take k).flatMap enc) = S at *
      generalize l[k] = x at *
      go_wp2_with fail
      refine (HX.out _).mono ?_
      rintro e w3 ⟨rfl, hb3⟩
      go_wp2_with fail
      rw [HE.out]
      go_roundw
      case rel => exact ⟨k + 1, by omega, by go_num, rfl, (bt hb hb3)⟩
      case measure => simp [intOf]; omega
    · obtain rfl : k = l.length := by omega
      go_wp2_with fail
      go_ret
      exact ⟨ret_str (by simp [encL]), hb⟩
end Go.Proofs.Ytbbfbeacgnimpaa
