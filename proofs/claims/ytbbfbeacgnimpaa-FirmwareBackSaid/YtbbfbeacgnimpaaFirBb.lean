/-
  The walk of the law: the blocks of an image, stored in any order, lead to the data.
-/
import Derived.Test.YtbbfbeacgnimpaaFirW
import Derived.Test.YtbbfbeacgnimpaaFirBa
open Go Go.RowKit Go.Proofs
namespace Go.Proofs.Ytbbfbeacgnimpaa
namespace Hub
def backF (s : ByteArray) : Fw := ⟨1, 1, (blks s).map sumB⟩
theorem backF_make (s : ByteArray) (h0 : s.size ≠ 0) (h1 : s.size ≤ 4096) : makeF 1 1 s = (backF s, blks s, 0) ∧ chkF (backF s) = 0 := makeF_ok 1 1 s (by decide) h0 h1
theorem backF_len (s : ByteArray) : (backF s).sums.length = nblk s := by rw [backF, List.length_map, blks_length]
theorem tmod_nat (a b n : Nat) : ((a : Int) + (b : Int)).tmod (n : Int) = (((a + b) % n : Nat) : Int) := by
  rw [← Int.natCast_add, Int.tmod_eq_emod_of_nonneg (by omega)]; rfl
end Hub
open Hub

set_option maxHeartbeats 4000000 in
theorem lawBack (s : ByteArray) (by' : Int) (down : Bool) (w : World) (_hs : s.size ≤ maxLen) (b0 : 0 ≤ by') (b1 : by' ≤ 255) :
    Calls Try.prog 8 #[.string s, .int .u8 by', .bool down] w fun e w' => e = .returned (.bool true) ∧ Below w.heap.size w w' := by
  by_cases g1 : s.size < 1
  · have g1i : (s.size : Int) < 1 := by omega
    clear _hs
    go_enter Try.func8, Try.ntmps8
    go_wp2_with (refine (awake_any _).mono ?_; rintro e w1 ⟨rfl, hb⟩)
    go_ret
    exact ⟨rfl, hb⟩
  · have g1i : ¬ (s.size : Int) < 1 := by omega
    by_cases g2 : 1000 < s.size
    · have g2i : (1000 : Int) < (s.size : Int) := by omega
      clear _hs
      go_enter Try.func8, Try.ntmps8
      go_wp2_with (refine (awake_any _).mono ?_; rintro e w1 ⟨rfl, hb⟩)
      go_ret
      exact ⟨rfl, hb⟩
    · have g2i : ¬ (1000 : Int) < (s.size : Int) := by omega
      obtain ⟨B, rfl⟩ := Int.eq_ofNat_of_zero_le b0
      have hB : B ≤ 255 := by omega
      have hnb : nblk s = (s.size + 63) / 64 := rfl
      obtain ⟨hm, hz⟩ := backF_make s (by omega) (by omega)
      have HM := Lib.hid (fun w => make_any 1 1 s w (by omega))
      rw [hm] at HM
      have hfl := backF_len s
      have hbl := blks_length s
      have hn1 : 1 ≤ nblk s := by omega
      have hn64 : nblk s ≤ 64 := by omega
      have hq : ((s.size : Int) + 63).tdiv 64 = (nblk s : Int) := by
        rw [Int.tdiv_eq_ediv_of_nonneg (by omega), hnb]; omega
      have hq2 : ((s.size : Int) + 63) / 64 = (nblk s : Int) := by rw [hnb]; omega
      have HPut := Lib.hid (fun k H D => back_put (f := backF s) (b := B) (d := down) (k := k) (H := H) (B := D) rfl hz (by omega))
      have HWh := Lib.hid (fun H D => back_whole (f := backF s) (b := B) (d := down) (H := H) (B := D) rfl hz)
      have HSm := Lib.hid (fun H D => back_small (s := s) (b := B) (d := down) (H := H) (B := D))
      have HMi := Lib.hid (fun H D => back_miss (f := backF s) (b := B) (d := down) (H := H) (B := D) rfl hz)
      have HZ := Lib.hid (back_zero s (nblk s) B down hn1)
      have HLt := Lib.hid (fun m => idxB_lt B down m hn1)
      have HGet := Lib.hid (blks_get s)
      have HBs := Lib.hid (fun j => blk_size s j)
      have HIx : ∀ m, idxB (nblk s) B down m = if down then nblk s - 1 - (m + B) % nblk s else (m + B) % nblk s := fun m => rfl
      have HIx' := Lib.hid HIx
      have HTm := Lib.hid (fun m : Nat => tmod_nat m B (nblk s))
      have HMd := Lib.hid (fun m : Nat => Nat.mod_lt (m + B) hn1)
      clear hm hz hnb HIx _hs b0 b1 g1 g2
      unfold fwv at *
      simp only [show (backF s).ven = 1 from rfl, show (backF s).ver = 1 from rfl] at HM
      generalize nblk s = n at *
      go_enter Try.func8, Try.ntmps8
      go_wp2_with fail
      refine (HM.out _).mono ?_
      rintro e w1 ⟨v, u, rfl, hv, hu, hb1⟩
      obtain ⟨av, cv, rfl, -⟩ := id hv
      obtain ⟨au, cu, rfl, -⟩ := id hu
      rw [hfl, hbl]
      rw [hfl] at hv
      rw [hbl] at hu
      have hFx : Fb w1.heap.size (.int .i64 1) (.int .i64 1) (.slice av n cv) (w1.alloc (.cells #[.int .i64 1, .int .i64 1, .slice av n cv] 24)) := heap_alloc_new w1 _
      have hx1 := below_box w1 (.cells #[.int .i64 1, .int .i64 1, .slice av n cv] 24)
      have hv2 := hv.below hx1 (Nat.le_refl _)
      have hu2 := hu.below hx1 (Nat.le_refl _)
      have hb2 : Below w.heap.size w (w1.alloc (.cells #[.int .i64 1, .int .i64 1, .slice av n cv] 24)) := bt hb1 hx1
      have hK := hx1.size
      have hlt1 := hFx.lt
      obtain ⟨bk, off, rfl, hbk, -⟩ := hu2.get 0 (by omega)
      have hv1 := hfl
      clear hv hu hb1 HM
      go_wp2_with fail
      generalize hW : w1.alloc (.cells #[.int .i64 1, .int .i64 1, .slice av n cv] 24) = W at *
      generalize w1.heap.size = K at *
      go_loopw [9, 10, 11, 13, 14] (fun e p q k i wr => ∃ (m : Nat) (H : List Bool) (D : List ByteArray), m ≤ n ∧ k = .int .i64 m ∧ BoolsAt 0 wr.heap.size wr p H ∧ StrsAt 0 wr.heap.size wr q D ∧ BackInv s n B down m (haveL n H D) (dataL n H D) ∧ (0 < m → H.length = n ∧ D.length = n) ∧ Below W.heap.size W wr) (fun _ _ _ k _ _ => n - (intOf k).toNat)
      case atStart => exact ⟨0, [], [], Nat.zero_le _, rfl, BoolsAt.nil _ _ _, StrsAt.nil _ _ _, HZ.out, fun h => by omega, Below.refl _ _⟩
      case round =>
        obtain ⟨m, H, D, hm, rfl, hH, hD, hinv, hln, hb⟩ := hrel
        have hFr := hFx.below hb hlt1
        have hvr := hv2.below hb hK
        have hur := hu2.below hb hK
        have hwr := hb2.trans (hb.mono hb2.size)
        obtain ⟨ap, cp, rfl, -⟩ := id hH
        obtain ⟨aq, cq, rfl, -⟩ := id hD
        by_cases hlt : m < n
        · have hmi : (m : Int) < (n : Int) := by omega
          have hil := HLt.out m
          have hmd := HMd.out m
          obtain ⟨p1, p2, p3, p4, p5⟩ := HPut.out m H D hinv
          have hmod : ((m : Int) + (B : Int)) % (n : Int) = (((m + B) % n : Nat) : Int) := by rw [← Int.natCast_add, ← Int.natCast_emod]
          cases down with
          | false =>
            have hI : ((m : Int) + (B : Int)) % (n : Int) = ((idxB n B false m : Nat) : Int) := hmod
            clear hmod
            go_wp2_with fail
            try rw [hI]
            generalize idxB n B false m = I at *
            have hcl : wr.cell? ⟨bk, off + I, none⟩ = some (.string (blk s I)) := by
              obtain ⟨bk', off', hae, _, hc⟩ := hur.get I (by omega)
              simp only [Option.some.injEq, Addr.mk.injEq, and_true] at hae
              obtain ⟨rfl, rfl⟩ := hae
              rw [HGet.out I (by omega)] at hc; exact hc
            have hxz : (blk s I).size ≤ 1099511627776 := by have := HBs.out I; omega
            generalize blk s I = x at *
            have hbkr : bk < wr.heap.size := Nat.lt_of_lt_of_le hbk (Nat.le_trans hK hb.size)
            have HFq := Lib.hid (fun w' (k : Below wr.heap.size wr w') => (⟨(hFr.below k hFr.lt).c0, (hFr.below k hFr.lt).c1, (hFr.below k hFr.lt).c2, by rw [k.cell (p := ⟨bk, off + I, none⟩) hbkr]; exact hcl⟩ : _ ∧ _ ∧ _ ∧ w'.cell? ⟨bk, off + I, none⟩ = some (.string x)))
            have HVx := Lib.hid (fun w' (k : Below wr.heap.size wr w') => verF_any (backF s) (.slice av n cv) w.heap.size K I x w' (hvr.below k (Nat.le_of_lt hFr.lt)) (Nat.le_trans (Nat.le_of_lt hFr.lt) k.size) (by omega) hxz)
            have HPx := Lib.hid (fun w' (k : Below wr.heap.size wr w') => put_any (backF s) (.slice av n cv) (.slice ap H.length cp) (.slice aq D.length cq) 0 wr.heap.size H D I x w' ((hvr.below k (Nat.le_of_lt hFr.lt)).wide (Nat.zero_le _) (Nat.le_of_lt hFr.lt)) (hH.below k (Nat.le_refl _)) (hD.below k (Nat.le_refl _)) k.size (by omega) hxz)
            rw [p1] at HVx
            generalize putF (backF s) H D (I : Int) x = PF at *
            rw [p2] at HPx
            unfold fwv at HVx HPx
            simp only [show (backF s).ven = 1 from rfl, show (backF s).ver = 1 from rfl] at HVx HPx
            have hIi : (I : Int) < (n : Int) := by omega
            have HP5 := Lib.hid p5
            have HP34 := Lib.hid (And.intro p3 p4)
            have Hb := Lib.hid hb
            clear hFr hvr hur hwr hinv hln hH hD p1 p2 p3 p4 p5 hcl hI hb
            refine wp_region_class (fun w' => Below wr.heap.size wr w') (by kernel_rfl) (by kernel_rfl) (Below.refl _ _).drew ?_
            refine BigFrame.wpQuiet_want rfl (fun K hK => ?_)
            refine quiet_val (.agg #[.int .i64 1, .int .i64 1, .slice av n cv]) (fun w' hC' => by obtain ⟨c0, c1, c2, c3⟩ := HFq.out _ hC'; go_simp) ?_
            go_simp
            refine hK _ ?_
            clear hK K
            refine BigFrame.wpQuiet_want rfl (fun K hK => ?_)
            refine quiet_val (.int .i64 I) (fun w' hC' => by go_simp) ?_
            go_simp
            refine hK _ ?_
            clear hK K
            refine BigFrame.wpQuiet_want rfl (fun K hK => ?_)
            refine quiet_val (.slice (some ⟨bk, off, none⟩) n cu) (fun w' hC' => by go_simp) ?_
            go_simp
            refine hK _ ?_
            clear hK K
            refine BigFrame.wpQuiet_want rfl (fun K hK => ?_)
            refine quiet_val (.int .i64 I) (fun w' hC' => by go_simp) ?_
            go_simp
            refine hK _ ?_
            clear hK K
            refine BigFrame.wpQuiet_want rfl (fun K hK => ?_)
            refine quiet_val (.pointer (some ⟨bk, off + I, none⟩)) (fun w' hC' => by go_simp) ?_
            go_simp
            refine hK _ ?_
            clear hK K
            refine BigFrame.wpQuiet_want rfl (fun K hK => ?_)
            refine quiet_val (.string x) (fun w' hC' => by obtain ⟨c0, c1, c2, c3⟩ := HFq.out _ hC'; go_simp) ?_
            go_simp
            refine hK _ ?_
            clear hK K
            refine BigFrame.wpQuiet_want rfl (fun K hK => ?_)
            refine quiet_enter (.int .i64 0) 26 #[.agg #[.int .i64 1, .int .i64 1, .slice av n cv], .int .i64 I, .string x] (fun w' hC' => by go_simp) (fun w' hC' => (HVx.out w' hC').mono fun e w'' ⟨he, hb⟩ => ⟨he, bt hC' hb⟩) ?_
            go_simp
            refine hK _ ?_
            clear hK K
            refine BigFrame.wpQuiet_want rfl (fun K hK => ?_)
            refine quiet_val (.bool false) (fun w' hC' => by go_simp) ?_
            go_simp
            refine hK _ ?_
            clear hK K
            refine wpQuiet_nil ?_
            intro w4 hC'
            obtain ⟨c0, c1, c2, c3⟩ := HFq.out _ hC'
            go_wp2_with fail
            go_region_with (go_at_call 24; refine (HPx.out _ (Below.drew' hC')).mono ?_; rintro e w5 ⟨v5, u5, rfl, hB5, hS5, hb5⟩)
            all_goals
              have hb6 : Below wr.heap.size wr w5 := (Below.drew' hC').trans (hb5.mono hC'.size)
              go_wp2_with fail
              go_roundw
              case rel => exact ⟨m + 1, PF.1, PF.2.1, by omega, by go_num, hB5.wide (Nat.zero_le _) (Nat.le_refl _), hS5.wide (Nat.zero_le _) (Nat.le_refl _), HP5.out, fun _ => HP34.out, bt Hb.out hb6⟩
              case measure => simp [intOf]; omega
          | true =>
            have hI : wrap64 ((n : Int) - 1 - ((m : Int) + (B : Int)) % (n : Int)) = ((idxB n B true m : Nat) : Int) := by
              rw [hmod, IntWalk.wrap64_in _ ⟨by omega, by omega⟩]
              show _ = ((n - 1 - (m + B) % n : Nat) : Int)
              omega
            clear hmod
            go_wp2_with fail
            try rw [hI]
            generalize idxB n B true m = I at *
            have hcl : wr.cell? ⟨bk, off + I, none⟩ = some (.string (blk s I)) := by
              obtain ⟨bk', off', hae, _, hc⟩ := hur.get I (by omega)
              simp only [Option.some.injEq, Addr.mk.injEq, and_true] at hae
              obtain ⟨rfl, rfl⟩ := hae
              rw [HGet.out I (by omega)] at hc; exact hc
            have hxz : (blk s I).size ≤ 1099511627776 := by have := HBs.out I; omega
            generalize blk s I = x at *
            have hbkr : bk < wr.heap.size := Nat.lt_of_lt_of_le hbk (Nat.le_trans hK hb.size)
            have HFq := Lib.hid (fun w' (k : Below wr.heap.size wr w') => (⟨(hFr.below k hFr.lt).c0, (hFr.below k hFr.lt).c1, (hFr.below k hFr.lt).c2, by rw [k.cell (p := ⟨bk, off + I, none⟩) hbkr]; exact hcl⟩ : _ ∧ _ ∧ _ ∧ w'.cell? ⟨bk, off + I, none⟩ = some (.string x)))
            have HVx := Lib.hid (fun w' (k : Below wr.heap.size wr w') => verF_any (backF s) (.slice av n cv) w.heap.size K I x w' (hvr.below k (Nat.le_of_lt hFr.lt)) (Nat.le_trans (Nat.le_of_lt hFr.lt) k.size) (by omega) hxz)
            have HPx := Lib.hid (fun w' (k : Below wr.heap.size wr w') => put_any (backF s) (.slice av n cv) (.slice ap H.length cp) (.slice aq D.length cq) 0 wr.heap.size H D I x w' ((hvr.below k (Nat.le_of_lt hFr.lt)).wide (Nat.zero_le _) (Nat.le_of_lt hFr.lt)) (hH.below k (Nat.le_refl _)) (hD.below k (Nat.le_refl _)) k.size (by omega) hxz)
            rw [p1] at HVx
            generalize putF (backF s) H D (I : Int) x = PF at *
            rw [p2] at HPx
            unfold fwv at HVx HPx
            simp only [show (backF s).ven = 1 from rfl, show (backF s).ver = 1 from rfl] at HVx HPx
            have hIi : (I : Int) < (n : Int) := by omega
            have HP5 := Lib.hid p5
            have HP34 := Lib.hid (And.intro p3 p4)
            have Hb := Lib.hid hb
            clear hFr hvr hur hwr hinv hln hH hD p1 p2 p3 p4 p5 hcl hI hb
            refine wp_region_class (fun w' => Below wr.heap.size wr w') (by kernel_rfl) (by kernel_rfl) (Below.refl _ _).drew ?_
            refine BigFrame.wpQuiet_want rfl (fun K hK => ?_)
            refine quiet_val (.agg #[.int .i64 1, .int .i64 1, .slice av n cv]) (fun w' hC' => by obtain ⟨c0, c1, c2, c3⟩ := HFq.out _ hC'; go_simp) ?_
            go_simp
            refine hK _ ?_
            clear hK K
            refine BigFrame.wpQuiet_want rfl (fun K hK => ?_)
            refine quiet_val (.int .i64 I) (fun w' hC' => by go_simp) ?_
            go_simp
            refine hK _ ?_
            clear hK K
            refine BigFrame.wpQuiet_want rfl (fun K hK => ?_)
            refine quiet_val (.slice (some ⟨bk, off, none⟩) n cu) (fun w' hC' => by go_simp) ?_
            go_simp
            refine hK _ ?_
            clear hK K
            refine BigFrame.wpQuiet_want rfl (fun K hK => ?_)
            refine quiet_val (.int .i64 I) (fun w' hC' => by go_simp) ?_
            go_simp
            refine hK _ ?_
            clear hK K
            refine BigFrame.wpQuiet_want rfl (fun K hK => ?_)
            refine quiet_val (.pointer (some ⟨bk, off + I, none⟩)) (fun w' hC' => by go_simp) ?_
            go_simp
            refine hK _ ?_
            clear hK K
            refine BigFrame.wpQuiet_want rfl (fun K hK => ?_)
            refine quiet_val (.string x) (fun w' hC' => by obtain ⟨c0, c1, c2, c3⟩ := HFq.out _ hC'; go_simp) ?_
            go_simp
            refine hK _ ?_
            clear hK K
            refine BigFrame.wpQuiet_want rfl (fun K hK => ?_)
            refine quiet_enter (.int .i64 0) 26 #[.agg #[.int .i64 1, .int .i64 1, .slice av n cv], .int .i64 I, .string x] (fun w' hC' => by go_simp) (fun w' hC' => (HVx.out w' hC').mono fun e w'' ⟨he, hb⟩ => ⟨he, bt hC' hb⟩) ?_
            go_simp
            refine hK _ ?_
            clear hK K
            refine BigFrame.wpQuiet_want rfl (fun K hK => ?_)
            refine quiet_val (.bool false) (fun w' hC' => by go_simp) ?_
            go_simp
            refine hK _ ?_
            clear hK K
            refine wpQuiet_nil ?_
            intro w4 hC'
            obtain ⟨c0, c1, c2, c3⟩ := HFq.out _ hC'
            go_wp2_with fail
            go_region_with (go_at_call 24; refine (HPx.out _ (Below.drew' hC')).mono ?_; rintro e w5 ⟨v5, u5, rfl, hB5, hS5, hb5⟩)
            all_goals
              have hb6 : Below wr.heap.size wr w5 := (Below.drew' hC').trans (hb5.mono hC'.size)
              go_wp2_with fail
              go_roundw
              case rel => exact ⟨m + 1, PF.1, PF.2.1, by omega, by go_num, hB5.wide (Nat.zero_le _) (Nat.le_refl _), hS5.wide (Nat.zero_le _) (Nat.le_refl _), HP5.out, fun _ => HP34.out, bt Hb.out hb6⟩
              case measure => simp [intOf]; omega
        · obtain rfl : m = n := by omega
          obtain ⟨hl1, hl2⟩ := hln (by omega)
          have hwh := HWh.out H D hinv
          have hmi := HMi.out H D hl1 hl2 hinv
          have hsm := HSm.out H D hl1 hl2 hinv
          have HA := Lib.hid (fun w' (k : Below wr.heap.size wr w') => whole_any (backF s) (.slice av m cv) (.slice ap H.length cp) (.slice aq D.length cq) 0 wr.heap.size H D w' ((hvr.below k (Nat.le_of_lt hFr.lt)).wide (Nat.zero_le _) (Nat.le_of_lt hFr.lt)) (hH.below k (Nat.le_refl _)) (hD.below k (Nat.le_refl _)) k.size (by omega) (fun y hy => by have := hsm y hy; omega))
          have HQ := Lib.hid (fun w' (k : Below wr.heap.size wr w') => miss_any (backF s) (.slice av m cv) (.slice ap H.length cp) 0 wr.heap.size H w' ((hvr.below k (Nat.le_of_lt hFr.lt)).wide (Nat.zero_le _) (Nat.le_of_lt hFr.lt)) (hH.below k (Nat.le_refl _)) k.size (by omega))
          rw [hwh] at HA
          rw [hmi] at HQ
          unfold fwv at HA HQ
          simp only [show (backF s).ven = 1 from rfl, show (backF s).ver = 1 from rfl, mk_bl] at HA HQ
          have HFq := Lib.hid (fun w' (k : Below wr.heap.size wr w') => (⟨(hFr.below k hFr.lt).c0, (hFr.below k hFr.lt).c1, (hFr.below k hFr.lt).c2⟩ : _ ∧ _ ∧ _))
          have hss : (s.toList == s.toList) = true := beq_self_eq_true _
          have Hwr := Lib.hid hwr
          obtain ⟨c0, c1, c2⟩ := HFq.out wr (Below.refl _ _)
          clear hFr hvr hur hwr hinv hln hH hD hwh hmi hsm hb hl1 hl2
          go_wp2_with (go_at_call 32; refine (HA.out _ (Below.refl _ _)).mono ?_; rintro e w5 ⟨rfl, hb5⟩; obtain ⟨d0, d1, d2⟩ := HFq.out _ hb5)
          refine (HQ.out _ hb5).mono ?_
          rintro e w6 ⟨u6, rfl, ho, hb6⟩
          obtain ⟨a6, c6, rfl, -⟩ := ho.ints
          go_wp2_with (refine (awake_any _).mono ?_; rintro e w7 ⟨rfl, hb7⟩)
          go_ret
          exact ⟨rfl, bt Hwr.out (bt hb5 (bt hb6 hb7))⟩
end Go.Proofs.Ytbbfbeacgnimpaa
