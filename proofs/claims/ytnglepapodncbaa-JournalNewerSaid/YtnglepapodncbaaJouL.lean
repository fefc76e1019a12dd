/-
  The walk of the chapter's example.
-/
import Derived.Test.YtnglepapodncbaaJouP
open Go Go.RowKit Go.Proofs
namespace Go.Proofs.Ytnglepapodncbaa
open Hub

set_option maxHeartbeats 1000000 in
theorem lives_any (w : World) : Calls Try.prog 10 #[] w fun e w' => e = .returned (.bool true) ∧ Below w.heap.size w w' := by
  have HH := Lib.hid (fun w => wHead_any 1 w (by decide) (by decide))
  rw [headJ_one] at HH
  have HA := Lib.hid (fun w => wAdd_any (mk exH) ⟨#[97]⟩ w (by decide) (by decide))
  rw [bl_mk, show bl (⟨#[97]⟩ : ByteArray) = [97] from rfl, addJ_ex] at HA
  have hz : (mk (exH ++ exR)).size = 10 := ex_length
  have hz9 : ((mk (exH ++ exR)).extract 0 9).size = 9 := by rw [ByteArray.size_extract, hz]; rfl
  have HS := Lib.hid (fun w => wScan_any (mk (exH ++ exR)) w (by rw [hz]; decide))
  rw [bl_mk, scanJ_ex] at HS
  have HS9 := Lib.hid (fun w => wScan_any ((mk (exH ++ exR)).extract 0 9) w (by rw [hz9]; decide))
  have HC9 := Lib.hid (fun w => wCut_any ((mk (exH ++ exR)).extract 0 9) w (by rw [hz9]; decide))
  rw [bl_take, bl_mk, scanJ_ex9] at HS9
  rw [bl_take, bl_mk, cutJ_ex9] at HC9
  have h9 : (9 : Int) ≤ ((mk (exH ++ exR)).size : Int) := by rw [hz]; decide
  have h10 : (((mk (exH ++ exR)).size : Int) != 10) = false := by rw [hz]; rfl
  have he : mk exH = ⟨#[72, 74, 49, 2]⟩ := rfl
  rw [he] at HH HA HC9
  clear hz hz9
  generalize mk (exH ++ exR) = J at *
  go_enter Try.func10, Try.ntmps10
  go_wp2_with fail
  refine (HH.out _).mono ?_
  rintro e w1 ⟨rfl, hb1⟩
  go_wp2_with fail
  refine (HA.out _).mono ?_
  rintro e w2 ⟨rfl, hb2⟩
  go_wp2_with fail
  refine (HS.out _).mono ?_
  rintro e w3 ⟨v3, rfl, hv3, hb3⟩
  go_wp2_with fail
  refine (HS9.out _).mono ?_
  rintro e w4 ⟨v4, rfl, hv4, hb4⟩
  obtain ⟨ao4, cap4, rfl, _, _⟩ := hv4
  obtain ⟨ao3, cap3, rfl, _, hc3⟩ := StrsAt.below hv3 hb4 (Nat.le_refl _)
  obtain ⟨b3, off3, rfl, _, _, hc3⟩ := hc3 (by simp)
  have hcell : w4.cell? ⟨b3, off3, none⟩ = some (.string ⟨#[97]⟩) := hc3 0 (by decide)
  clear hc3
  go_wp2_with (refine (HC9.out _).mono ?_; rintro e w5 ⟨rfl, hb5⟩)
  go_ret
  exact ⟨rfl, bt hb1 (bt hb2 (bt hb3 (bt hb4 hb5)))⟩
end Go.Proofs.Ytnglepapodncbaa
