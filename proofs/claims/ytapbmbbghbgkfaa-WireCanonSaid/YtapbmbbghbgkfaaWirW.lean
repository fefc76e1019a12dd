/-
  The walk of the chapter's examples.
-/
import Derived.Test.YtapbmbbghbgkfaaWirI
open Go Go.RowKit Go.Proofs
namespace Go.Proofs.Ytapbmbbghbgkfaa
namespace Hub
theorem en0 : enc 0 = [0] := by rw [enc, show zig 0 = 0 from rfl, grp_small 0 (by decide)]; rfl
theorem en63 : enc 63 = [126] := by rw [enc, show zig 63 = 126 from rfl, grp_small 126 (by decide)]; rfl
theorem en64 : enc 64 = [128, 1] := by rw [enc, show zig 64 = 128 from rfl, grp_big 128 (by decide), grp_small _ (by decide)]; rfl
theorem enm1 : enc (-1) = [1] := by rw [enc, show zig (-1) = 1 from rfl, grp_small 1 (by decide)]; rfl
theorem en1 : enc 1 = [2] := by rw [enc, show zig 1 = 2 from rfl, grp_small 2 (by decide)]; rfl
theorem en2 : enc 2 = [4] := by rw [enc, show zig 2 = 4 from rfl, grp_small 4 (by decide)]; rfl
theorem ent : encT (bl { data := #[97, 98] }) = [4, 97, 98] := by rw [encT, show ((bl { data := #[97, 98] }).length : Int) = 2 from rfl, en2]; rfl
theorem enl : encL [1, -1] = [4, 2, 1] := by simp only [encL, List.length_cons, List.length_nil, List.flatMap_cons, List.flatMap_nil]; rw [show ((0 + 1 + 1 : Nat) : Int) = 2 from rfl, en2, en1, enm1]; rfl
theorem em0 : mk (enc 0) = { data := #[0] } := by rw [en0]; rfl
theorem em63 : mk (enc 63) = { data := #[126] } := by rw [en63]; rfl
theorem em64 : mk (enc 64) = { data := #[128, 1] } := by rw [en64]; rfl
theorem emm1 : mk (enc (-1)) = { data := #[1] } := by rw [enm1]; rfl
theorem emt : mk (encT (bl { data := #[97, 98] })) = { data := #[4, 97, 98] } := by rw [ent]; rfl
theorem eml : mk (encL [1, -1]) = { data := #[4, 2, 1] } := by rw [enl]; rfl
theorem emb : mk (encB true) = { data := #[1] } := rfl
theorem emx : mk [97, 98] = { data := #[97, 98] } := rfl
def rs (l : List UInt8) (e : Int) : Rs := ⟨l, e⟩
theorem st1 : rInt (rs [128, 1, 4, 97, 98, 1, 7] 0) = (64, rs [4, 97, 98, 1, 7] 0) := by kernel_rfl
theorem st2 : rText 2 (rs [4, 97, 98, 1, 7] 0) = ([97, 98], rs [1, 7] 0) := by kernel_rfl
theorem st3 : rBool (rs [1, 7] 0) = (true, rs [7] 0) := by kernel_rfl
theorem st4 : rEnd (rs [7] 0) = 23 := by kernel_rfl
theorem st5 : rLeft (rs [7] 0) = 1 := by kernel_rfl
theorem st6 : rInt (rs [7] 0) = (-4, rs [] 0) := by kernel_rfl
theorem st7 : rEnd (rs [] 0) = 0 := by kernel_rfl
theorem st8 : rBool (rs [] 0) = (false, rs [] 5) := by kernel_rfl
theorem st9 : rLeft (rs [] 5) = 0 := by kernel_rfl
end Hub
open Hub

set_option maxHeartbeats 2000000 in
theorem awake_any (w : World) : Calls Try.prog 10 #[] w fun e w' => e = .returned (.bool true) ∧ Below w.heap.size w w' := by
  have H0 := Lib.hid (fun w => wInt_any 0 w (by decide) (by decide))
  have H63 := Lib.hid (fun w => wInt_any 63 w (by decide) (by decide))
  have H64 := Lib.hid (fun w => wInt_any 64 w (by decide) (by decide))
  have Hm1 := Lib.hid (fun w => wInt_any (-1) w (by decide) (by decide))
  have HT := Lib.hid (fun w => wText_any { data := #[97, 98] } w (by decide))
  have HB := Lib.hid (fun w => wBool_any true w)
  have HL := Lib.hid (fun v N w h hN => wInts_any v [1, -1] 0 N w h hN (by decide) (by intro x hx; simp at hx; rcases hx with rfl | rfl <;> decide))
  have HN := Lib.hid (fun w => wNew_any { data := #[128, 1, 4, 97, 98, 1, 7] } w (by decide))
  have HR1 := Lib.hid (fun B w h => wrInt_any B (rs [128, 1, 4, 97, 98, 1, 7] 0) w h)
  have HR2 := Lib.hid (fun B w h => wrText_any B (rs [4, 97, 98, 1, 7] 0) 2 w h)
  have HR3 := Lib.hid (fun B w h => wrBool_any B (rs [1, 7] 0) w h)
  have HR4 := Lib.hid (fun B w h => wEnd_any B (rs [7] 0) w h)
  have HR5 := Lib.hid (fun B w h => wLeft_any B (rs [7] 0) w h)
  have HR6 := Lib.hid (fun B w h => wrInt_any B (rs [7] 0) w h)
  have HR7 := Lib.hid (fun B w h => wEnd_any B (rs [] 0) w h)
  have HR8 := Lib.hid (fun B w h => wrBool_any B (rs [] 0) w h)
  have HR9 := Lib.hid (fun B w h => wErr_any B (rs [] 5) w h)
  have HR10 := Lib.hid (fun B w h => wLeft_any B (rs [] 5) w h)
  rw [em0] at H0; rw [em63] at H63; rw [em64] at H64; rw [emm1] at Hm1; rw [emt] at HT; rw [eml] at HL; rw [emb] at HB
  rw [st1] at HR1; rw [st2] at HR2; simp only [emx] at HR2; rw [st3] at HR3; rw [st4] at HR4; rw [st5] at HR5; rw [st6] at HR6; rw [st7] at HR7; rw [st8] at HR8; rw [st9] at HR10
  go_enter Try.func10, Try.ntmps10
  go_wp2_with fail
  refine (H0.out _).mono ?_
  rintro e w1 ⟨rfl, hb1⟩
  go_wp2_with fail
  refine (H63.out _).mono ?_
  rintro e w2 ⟨rfl, hb2⟩
  go_wp2_with fail
  refine (H64.out _).mono ?_
  rintro e w3 ⟨rfl, hb3⟩
  go_wp2_with fail
  refine (Hm1.out _).mono ?_
  rintro e w4 ⟨rfl, hb4⟩
  go_wp2_with fail
  refine (HT.out _).mono ?_
  rintro e w5 ⟨rfl, hb5⟩
  go_wp2_with fail
  refine (HL.out _ (w5.heap.size + 1) _ ?_ (by simp)).mono ?_
  · refine ⟨_, 2, rfl, fun _ => ⟨w5.heap.size, 0, rfl, Nat.zero_le _, by omega, fun i hi => ?_⟩⟩
    match i, hi with
    | 0, _ => simp
    | 1, _ => simp
  rintro e w6 ⟨rfl, hb6⟩
  go_wp2_with fail
  refine (HB.out _).mono ?_
  rintro e w7 ⟨rfl, rfl⟩
  go_wp2_with fail
  refine (HN.out _).mono ?_
  rintro e w8 ⟨rfl, hr8, hb8, hs8⟩
  go_wp2_with fail
  refine (HR1.out _ _ hr8).mono ?_
  rintro e w9 ⟨rfl, hr9, ht9⟩
  go_wp2_with fail
  refine (HR2.out _ _ hr9).mono ?_
  rintro e w10 ⟨rfl, hr10, ht10⟩
  go_wp2_with fail
  refine (HR3.out _ _ hr10).mono ?_
  rintro e w11 ⟨rfl, hr11, ht11⟩
  go_wp2_with fail
  refine (HR4.out _ _ hr11).mono ?_
  rintro e w12 ⟨rfl, rfl⟩
  go_wp2_with fail
  refine (HR5.out _ _ hr11).mono ?_
  rintro e w12 ⟨rfl, rfl⟩
  go_wp2_with fail
  refine (HR6.out _ _ hr11).mono ?_
  rintro e w13 ⟨rfl, hr13, ht13⟩
  go_wp2_with fail
  refine (HR7.out _ _ hr13).mono ?_
  rintro e w14 ⟨rfl, rfl⟩
  go_wp2_with fail
  refine (HR8.out _ _ hr13).mono ?_
  rintro e w15 ⟨rfl, hr15, ht15⟩
  go_wp2_with fail
  refine (HR9.out _ _ hr15).mono ?_
  rintro e w16 ⟨rfl, rfl⟩
  go_wp2_with fail
  refine (HR10.out _ _ hr15).mono ?_
  rintro e w16 ⟨rfl, rfl⟩
  go_wp2_with fail
  go_ret
  have hb := bt (bt (bt (bt (bt (bt hb1 hb2) hb3) hb4) hb5) ((Below.refl _ _).alloc (Nat.le_refl _) _)) hb6
  have hb' := bt hb hb8
  have ht := (((ht9.trans ht10).trans ht11).trans ht13).trans ht15
  refine ⟨rfl, hb'.trans (ht.below ?_ hb'.size)⟩
  exact hb.size
end Go.Proofs.Ytapbmbbghbgkfaa
