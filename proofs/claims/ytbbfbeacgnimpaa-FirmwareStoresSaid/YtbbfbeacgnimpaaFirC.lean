/-
  The walks of what checks a block of a checked description, and of its encoding, the program's.
-/
import Derived.Test.YtbbfbeacgnimpaaFirB
import Derived.Test.YtbbfbeacgnimpaaQui
open Go Go.RowKit Go.Proofs
namespace Go.Proofs.Ytbbfbeacgnimpaa
namespace Hub
/-- A box of three cells, behind a call that leaves it. -/
theorem box3 {w w1 : World} {x y z : Value} {T : TypeId} (hb : Below (w.alloc (.cells #[x, y, z] T)).heap.size (w.alloc (.cells #[x, y, z] T)) w1) :
    w1.cell? ⟨w.heap.size, 0, none⟩ = some x ∧ w1.cell? ⟨w.heap.size, 1, none⟩ = some y ∧ w1.cell? ⟨w.heap.size, 2, none⟩ = some z ∧ w1.heap[w.heap.size]? = some (.cells #[x, y, z] T) ∧ Below w.heap.size w w1 ∧ w.heap.size < w1.heap.size := by
  have hlt : w.heap.size < (w.alloc (.cells #[x, y, z] T)).heap.size := by simp
  have hk : w1.heap[w.heap.size]? = some (.cells #[x, y, z] T) := by rw [hb.block _ hlt]; exact heap_alloc_new w _
  refine ⟨by rw [Lib.cell_of_heap hk]; rfl, by rw [Lib.cell_of_heap hk]; rfl, by rw [Lib.cell_of_heap hk]; rfl, hk, ((Below.refl _ _).alloc (Nat.le_refl _) _).trans (hb.mono (Nat.le_of_lt hlt)), Nat.lt_of_lt_of_le hlt hb.size⟩
theorem below_box (w : World) (o : Obj) : Below w.heap.size w (w.alloc o) := (Below.refl _ _).alloc (Nat.le_refl _) _
theorem verF_zero {f : Fw} {i : Int} {b : ByteArray} (h : chkF f = 0) : verF f i b = verB f.sums i b := by rw [verF, if_neg (by simp [h])]
theorem verF_bad {f : Fw} {i : Int} {b : ByteArray} (h : chkF f ≠ 0) : verF f i b = chkF f := by rw [verF, if_pos h]
end Hub
open Hub

set_option maxHeartbeats 1000000 in
theorem verF_any (f : Fw) (v : Value) (lo N : Nat) (i : Int) (b : ByteArray) (w : World) (hv : IntsAt lo N w v f.sums) (hN : N ≤ w.heap.size) (hl : f.sums.length ≤ 1099511627776) (hb : b.size ≤ 1099511627776) :
    Calls Try.prog 26 #[fwv f v, .int .i64 i, .string b] w fun e w' => e = .returned (.int .i64 (verF f i b)) ∧ Below w.heap.size w w' := by
  have HK := Lib.hid (fun w h hN => chk_any f v lo N w h hN hl)
  have HB := Lib.hid (fun w h hN => verB_any f v lo N i b w h hN hl hb)
  have HV := Lib.hid hv
  unfold fwv at *
  by_cases hz : chkF f = 0
  · have hzb : (chkF f != 0) = false := by simpa using hz
    rw [verF_zero hz]
    clear hz hv
    go_enter Try.func26, Try.ntmps26
    go_wp2_with fail
    refine (HK.out _ (HV.out.below (below_box w _) hN) (by simp; omega)).mono ?_
    rintro e w1 ⟨rfl, hb1⟩
    obtain ⟨c0, c1, c2, _, hb2, hs⟩ := box3 hb1
    clear hb1
    go_wp2_with fail
    refine (HB.out _ (HV.out.below hb2 hN) (by omega)).mono ?_
    rintro e w2 ⟨rfl, hb3⟩
    go_wp2_with fail
    go_ret
    exact ⟨rfl, bt hb2 hb3⟩
  · have hzb : (chkF f != 0) = true := by simpa using hz
    rw [verF_bad hz]
    clear hz hv
    go_enter Try.func26, Try.ntmps26
    go_wp2_with fail
    refine (HK.out _ (HV.out.below (below_box w _) hN) (by simp; omega)).mono ?_
    rintro e w1 ⟨rfl, hb1⟩
    obtain ⟨c0, c1, c2, _, hb2, hs⟩ := box3 hb1
    clear hb1
    go_wp2_with fail
    go_ret
    exact ⟨rfl, hb2⟩

set_option maxHeartbeats 1000000 in
theorem encFw_any (f : Fw) (v : Value) (lo N : Nat) (w : World) (hv : IntsAt lo N w v f.sums) (hN : N ≤ w.heap.size) (hl : f.sums.length ≤ 8796093022208) (hbd : IntB f.sums)
    (h0 : -9223372036854775808 ≤ f.ven) (h1 : f.ven ≤ 9223372036854775807) (h2 : -9223372036854775808 ≤ f.ver) (h3 : f.ver ≤ 9223372036854775807) :
    Calls Try.prog 13 #[fwv f v] w fun e w' => e = .returned (.string (mk (encFw f))) ∧ Below w.heap.size w w' := by
  have HA := Lib.hid (fun w => wInt_any f.ven w h0 h1)
  have HB := Lib.hid (fun w => wInt_any f.ver w h2 h3)
  have HC := Lib.hid (fun w h hN => wInts_any v f.sums lo N w h hN hl hbd)
  have HV := Lib.hid hv
  have he : mk (enc f.ven) ++ mk (enc f.ver) ++ mk (encL f.sums) = mk (encFw f) := by apply bl_inj; rw [bl_append, bl_append, bl_mk, bl_mk, bl_mk, bl_mk, encFw, List.append_assoc]
  have HE := Lib.hid he
  have hz1 : (mk (enc f.ven)).size ≤ 10 := enc_length _ h0 h1
  have hz2 : (mk (enc f.ver)).size ≤ 10 := enc_length _ h2 h3
  have hz3 : (mk (encL f.sums)).size ≤ 87960930222100 := by
    show (encL f.sums).length ≤ _
    have := enc_length (f.sums.length : Int) (by omega) (by omega)
    have := encs_length f.sums hbd
    rw [encL, List.length_append]; omega
  unfold fwv at *
  clear he hv
  generalize mk (enc f.ven) = A at *
  generalize mk (enc f.ver) = B at *
  generalize mk (encL f.sums) = C at *
  have hab : A.size + B.size ≤ 9223372036854775807 := by omega
  have habc : A.size + B.size + C.size ≤ 9223372036854775807 := by omega
  go_enter Try.func13, Try.ntmps13
  go_wp2_with fail
  have HBx := Lib.hid (fun w' (h : Below (w.alloc (.cells #[.int .i64 f.ven, .int .i64 f.ver, v] 24)).heap.size (w.alloc (.cells #[.int .i64 f.ven, .int .i64 f.ver, v] 24)) w') => (⟨(box3 h).1, (box3 h).2.1, (box3 h).2.2.1⟩ : _ ∧ _ ∧ _))
  have HVw := Lib.hid (fun w' (h : Below (w.alloc (.cells #[.int .i64 f.ven, .int .i64 f.ver, v] 24)).heap.size (w.alloc (.cells #[.int .i64 f.ven, .int .i64 f.ver, v] 24)) w') => HV.out.below (box3 h).2.2.2.2.1 hN)
  have HSz := Lib.hid (fun w' (h : Below (w.alloc (.cells #[.int .i64 f.ven, .int .i64 f.ver, v] 24)).heap.size (w.alloc (.cells #[.int .i64 f.ven, .int .i64 f.ver, v] 24)) w') => Nat.le_trans hN (Nat.le_of_lt (box3 h).2.2.2.2.2))
  have HFin := Lib.hid (below_box w (.cells #[.int .i64 f.ven, .int .i64 f.ver, v] 24))
  have HWs := Lib.hid (show w.heap.size ≤ (w.alloc (.cells #[.int .i64 f.ven, .int .i64 f.ver, v] 24)).heap.size by simp)
  generalize hW : w.alloc (.cells #[.int .i64 f.ven, .int .i64 f.ver, v] 24) = W at *
  refine wp_region_class (fun w' => Below W.heap.size W w') (by kernel_rfl) (by kernel_rfl) (Below.refl _ _).drew ?_
  refine BigFrame.wpQuiet_want rfl (fun K hK => ?_)
  refine quiet_val (.pointer (some ⟨w.heap.size, 0, none⟩)) (fun w' hC' => by go_simp) ?_
  go_simp
  refine hK _ ?_
  clear hK K
  refine BigFrame.wpQuiet_want rfl (fun K hK => ?_)
  refine quiet_val (.int .i64 f.ven) (fun w' hC' => by have c0 := (HBx.out _ hC').1; go_simp) ?_
  go_simp
  refine hK _ ?_
  clear hK K
  refine BigFrame.wpQuiet_want rfl (fun K hK => ?_)
  refine quiet_enter (.string A) 41 #[.int .i64 f.ven] (fun w' hC' => by go_simp) (fun w' hC' => (HA.out w').mono fun e w'' ⟨he, hb⟩ => ⟨he, bt hC' hb⟩) ?_
  go_simp
  refine hK _ ?_
  clear hK K
  refine BigFrame.wpQuiet_want rfl (fun K hK => ?_)
  refine quiet_val (.pointer (some ⟨w.heap.size, 1, none⟩)) (fun w' hC' => by go_simp) ?_
  go_simp
  refine hK _ ?_
  clear hK K
  refine BigFrame.wpQuiet_want rfl (fun K hK => ?_)
  refine quiet_val (.int .i64 f.ver) (fun w' hC' => by have c1 := (HBx.out _ hC').2.1; go_simp) ?_
  go_simp
  refine hK _ ?_
  clear hK K
  refine BigFrame.wpQuiet_want rfl (fun K hK => ?_)
  refine quiet_enter (.string B) 41 #[.int .i64 f.ver] (fun w' hC' => by go_simp) (fun w' hC' => (HB.out w').mono fun e w'' ⟨he, hb⟩ => ⟨he, bt hC' hb⟩) ?_
  go_simp
  refine hK _ ?_
  clear hK K
  refine BigFrame.wpQuiet_want rfl (fun K hK => ?_)
  refine quiet_val (.string (A ++ B)) (fun w' hC' => by go_simp) ?_
  go_simp
  refine hK _ ?_
  clear hK K
  refine BigFrame.wpQuiet_want rfl (fun K hK => ?_)
  refine quiet_val (.pointer (some ⟨w.heap.size, 2, none⟩)) (fun w' hC' => by go_simp) ?_
  go_simp
  refine hK _ ?_
  clear hK K
  refine BigFrame.wpQuiet_want rfl (fun K hK => ?_)
  refine quiet_val (v) (fun w' hC' => by have c2 := (HBx.out _ hC').2.2; go_simp) ?_
  go_simp
  refine hK _ ?_
  clear hK K
  refine BigFrame.wpQuiet_want rfl (fun K hK => ?_)
  refine quiet_enter (.string C) 42 #[v] (fun w' hC' => by go_simp) (fun w' hC' => (HC.out w' (HVw.out _ hC') (HSz.out _ hC')).mono fun e w'' ⟨he, hb⟩ => ⟨he, bt hC' hb⟩) ?_
  go_simp
  refine hK _ ?_
  clear hK K
  refine BigFrame.wpQuiet_want rfl (fun K hK => ?_)
  refine quiet_val (.string (A ++ B ++ C)) (fun w' hC' => by go_simp) ?_
  go_simp
  refine hK _ ?_
  clear hK K
  refine BigFrame.wpQuiet_want rfl (fun K hK => ?_)
  refine quiet_val (.string (A ++ B ++ C)) (fun w' hC' => by go_simp) ?_
  go_simp
  refine hK _ ?_
  clear hK K
  refine wpQuiet_nil ?_
  intro w' hC'
  go_wp2_with fail
  rw [HE.out]
  go_ret
  exact ⟨rfl, HFin.out.trans (hC'.mono HWs.out)⟩
end Go.Proofs.Ytbbfbeacgnimpaa
