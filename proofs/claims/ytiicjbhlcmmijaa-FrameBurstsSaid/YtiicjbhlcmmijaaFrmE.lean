/-
  The walk of the decoding of frames by the reference.
-/
import Derived.Test.YtiicjbhlcmmijaaFrmD
open Go Go.RowKit Go.Proofs
namespace Go.Proofs.Ytiicjbhlcmmijaa
open Hub

theorem two_end (s : ByteArray) (h : 2 ≤ s.size) (c : Nat) (hc : c ≤ 65535) : s.extract (s.size - 2) s.size = mk (two c) ↔ (c : Int) = 256 * (s[s.size - 2].toNat : Int) + (s[s.size - 1].toNat : Int) := by
  have hb : bl (s.extract (s.size - 2) s.size) = [s[s.size - 2], s[s.size - 1]] := by
    rw [bl_extract]
    apply List.ext_getElem
    · simp [size_bl]; omega
    · intro i h1 h2
      simp at h2
      simp only [List.getElem_take, List.getElem_drop]
      rcases Nat.lt_or_ge i 1 with h3 | h3
      · obtain rfl : i = 0 := by omega
        rfl
      · obtain rfl : i = 1 := by omega
        have : s.size - 2 + 1 = s.size - 1 := by omega
        simp only [this]; rfl
  have h1 := s[s.size - 2].toNat_lt
  have h2 := s[s.size - 1].toNat_lt
  constructor
  · intro he
    have he2 : [s[s.size - 2], s[s.size - 1]] = two c := by rw [← hb, he, bl_mk]
    simp only [two, List.cons.injEq, and_true] at he2
    rw [he2.1, he2.2]
    simp
    omega
  · intro he
    apply bl_inj
    rw [hb, bl_mk, two]
    rw [show c / 256 = s[s.size - 2].toNat from by omega, show c % 256 = s[s.size - 1].toNat from by omega]
    simp

theorem w64_mulr (b : UInt8) : wrap64 ((b.toNat : Int) * 256) = 256 * (b.toNat : Int) := (IntWalk.wrap64_in _ (by have := b.toNat_lt; omega)).trans (Int.mul_comm _ _)

set_option maxHeartbeats 2000000 in
theorem refDecode_any (s : ByteArray) (w : World) (hs : s.size ≤ 1099511620000) : Calls Try.prog 18 #[.string s] w fun e w' => e = .returned (.tuple #[(decD (bl s)).1.val, .int .i64 (decD (bl s)).2]) ∧ Below w.heap.size w w' := by
  by_cases hl : s.size < 11
  · have hl2 : decide ((s.size : Int) < 11) = true := by simp; omega
    rw [decD_five s hl]
    go_enter Try.func18, Try.ntmps18
    go_wp2
    refine bodyPost_ret (v := .tuple #[zeroFr.val, .int .i64 5]) ?_ rfl ⟨rfl, (Below.refl _ _).alloc (Nat.le_refl _) _⟩
    simp [results, Try.results18, go_sem, zeroFr, Fr.val]
  · have hl2 : decide ((s.size : Int) < 11) = false := by simp; omega
    have hl3 : 11 ≤ (s.size : Int) := by omega
    have hb2 := at_bl s (s.size - 2) (by omega)
    have hb1 := at_bl s (s.size - 1) (by omega)
    have hb8 := at_bl s 8 (by omega)
    have H6 := Lib.hid (decD_six s hl)
    have H4 := Lib.hid (decD_four s hl)
    have HR := Lib.hid (decD_rest s hl)
    rw [hb2, hb1] at H6 H4 HR
    rw [hb8] at H4 HR
    clear hb2 hb1 hb8
    go_enter Try.func18, Try.ntmps18
    go_wp2
    have he : (s.extract 0 (s.size - 2)).size = s.size - 2 := by simp
    have ha0 : (2 : Int) ≤ (s.size : Int) := by omega
    have ha1 : (s.size : Int) - 2 < s.size := by omega
    have ha2 : (s.size : Int) - 2 ≤ s.size := by omega
    have ha3 : IntKind.i64.wrap ((s.size : Int) - 2 + 1) = (s.size : Int) - 1 := IntWalk.i64_in _ (by omega) |>.trans (by omega)
    have ha4 : (1 : Int) ≤ (s.size : Int) := by omega
    have ha5 : (s.size : Int) - 1 < s.size := by omega
    have ha6 : ((s.size : Int) - 1).toNat = s.size - 1 := by omega
    have hx4 := Lib.hid (two_end s (by omega) (crc16 (bl (s.extract 0 (s.size - 2)))).toNat (crc_le _))
    have HT := Lib.hid (fun w => refTwo_eq ((crc16 (bl (s.extract 0 (s.size - 2)))).toNat : Int) w (by omega) (by have := crc_le (bl (s.extract 0 (s.size - 2))); omega))
    have HC := Lib.hid (fun w => refCrc16_any (s.extract 0 (s.size - 2)) w (by omega))
    generalize (crc16 (bl (s.extract 0 (s.size - 2)))).toNat = c at *
    rw [Int.toNat_natCast] at HT
    refine wp_region_pre 6 (by kernel_rfl) (by kernel_rfl) ?_
    simp only [List.take_succ_cons, List.take_zero, List.drop_succ_cons, List.drop_zero]
    iterate 6 (refine wpReads_step (fun K hK => ?_); go_simp; refine hK _ ?_; clear hK K)
    refine wpReads_nil ?_
    go_wp2_with fail
    refine (HC.out _).mono ?_
    rintro e w1 ⟨rfl, rfl⟩
    go_wp2_with fail
    refine (HT.out _).mono ?_
    rintro e w1 ⟨rfl, rfl⟩
    go_wp2_with fail
    refine Only.normal ?_
    have hw1 := w64_byte
    have hw2 := w64_mul
    have hw3 := w64_sum
    have hi0 : (0 : Int) < s.size := by omega
    have hn0 : 0 < s.size := by omega
    have hi1 : (1 : Int) < s.size := by omega
    have hi2 : (2 : Int) < s.size := by omega
    have hi3 : (3 : Int) < s.size := by omega
    have hi4 : (4 : Int) < s.size := by omega
    have hi5 : (5 : Int) < s.size := by omega
    have hi6 : (6 : Int) < s.size := by omega
    have hi7 : (7 : Int) < s.size := by omega
    have hi8 : (8 : Int) < s.size := by omega
    have hi9 : (9 : Int) ≤ (s.size : Int) - 2 := by omega
    go_wp2_with fail
    · rename_i hx
      rw [H6.out fun h => bne_yes hx (hx4.out.2 h)]
      refine bodyPost_ret (v := .tuple #[zeroFr.val, .int .i64 6]) ?_ rfl ⟨rfl, ?_⟩
      rotate_left
      · repeat (with_reducible first | exact Below.refl _ _ | refine Below.setCell ?_ (by simp) _ | refine below_drewN ?_ _ | refine Below.drew ?_ | refine Below.alloc ?_ (by simp) _)
      simp [results, Try.results18, go_sem, zeroFr, Fr.val]
    · rename_i hx _ _ hy
      simp only [bne_iff_ne, ne_eq] at hy
      rw [H4.out (hx4.out.1 (bne_no hx)) hy]
      refine bodyPost_ret (v := .tuple #[zeroFr.val, .int .i64 4]) ?_ rfl ⟨rfl, ?_⟩
      rotate_left
      · repeat (with_reducible first | exact Below.refl _ _ | refine Below.setCell ?_ (by simp) _ | refine below_drewN ?_ _ | refine Below.drew ?_ | refine Below.alloc ?_ (by simp) _)
      simp [results, Try.results18, go_sem, zeroFr, Fr.val]
    · rename_i hx hy K hK
      simp only [bne_eq_false_iff_eq] at hy
      have HR2 := Lib.hid (HR.out (hx4.out.1 (bne_no hx)) hy)
      clear hx hy HR H4 H6
      refine wp_region_pre 20 (by kernel_rfl) (by kernel_rfl) ?_
      simp only [List.take_succ_cons, List.take_zero, List.drop_succ_cons, List.drop_zero]
      iterate 20 (refine wpReads_step (fun K hK => ?_); go_simp; refine hK _ ?_; clear hK K)
      refine wpReads_nil ?_
      go_wp2_with fail
      refine Only.normal ?_
      go_wp2_with fail
      simp only [w64_byte]
      refine wp_region_pre 8 (by kernel_rfl) (by kernel_rfl) ?_
      simp only [List.take_succ_cons, List.take_zero, List.drop_succ_cons, List.drop_zero]
      iterate 8 (refine wpReads_step (fun K hK => ?_); go_simp; refine hK _ ?_; clear hK K)
      refine wpReads_nil ?_
      go_wp2_with fail
      refine Only.normal ?_
      have hf0 := at_bl s 0 (by omega)
      have hf1 := at_bl s 1 (by omega)
      have hf2 := at_bl s 2 (by omega)
      have hf3 := at_bl s 3 (by omega)
      have hf4 := at_bl s 4 (by omega)
      have hf5 := at_bl s 5 (by omega)
      have hf6 := at_bl s 6 (by omega)
      have hf7 := at_bl s 7 (by omega)
      have HF := Lib.hid (show fieldsD (bl s) = { kind := (s[0].toNat : Int) % 128, frm := (s[1].toNat : Int), to := (s[2].toNat : Int), src := (s[3].toNat : Int), tgt := (s[4].toNat : Int), seq := 256 * (s[5].toNat : Int) + (s[6].toNat : Int), hops := (s[7].toNat : Int), urg := decide (128 ≤ (s[0].toNat : Int)), dat := s.extract 9 (s.size - 2) } from by
        rw [dat_eq s, ← hf0, ← hf1, ← hf2, ← hf3, ← hf4, ← hf5, ← hf6, ← hf7]; rfl)
      clear hf0 hf1 hf2 hf3 hf4 hf5 hf6 hf7
      simp only [w64_byte, w64_mulr, w64_sum]
      rw [HF.out] at HR2
      go_wp2_with fail
      refine (refCheck_eq { kind := (s[0].toNat : Int) % 128, frm := (s[1].toNat : Int), to := (s[2].toNat : Int), src := (s[3].toNat : Int), tgt := (s[4].toNat : Int), seq := 256 * (s[5].toNat : Int) + (s[6].toNat : Int), hops := (s[7].toNat : Int), urg := decide (128 ≤ (s[0].toNat : Int)), dat := s.extract 9 (s.size - 2) } _).mono ?_
      by_cases hc : check { kind := (s[0].toNat : Int) % 128, frm := (s[1].toNat : Int), to := (s[2].toNat : Int), src := (s[3].toNat : Int), tgt := (s[4].toNat : Int), seq := 256 * (s[5].toNat : Int) + (s[6].toNat : Int), hops := (s[7].toNat : Int), urg := decide (128 ≤ (s[0].toNat : Int)), dat := s.extract 9 (s.size - 2) } = 0
      · rw [hc]
        rw [if_pos hc] at HR2
        rintro e w1 ⟨rfl, rfl⟩
        go_wp2_with fail
        rw [HR2.out]
        refine bodyPost_ret (v := .tuple #[Fr.val { kind := (s[0].toNat : Int) % 128, frm := (s[1].toNat : Int), to := (s[2].toNat : Int), src := (s[3].toNat : Int), tgt := (s[4].toNat : Int), seq := 256 * (s[5].toNat : Int) + (s[6].toNat : Int), hops := (s[7].toNat : Int), urg := decide (128 ≤ (s[0].toNat : Int)), dat := s.extract 9 (s.size - 2) }, .int .i64 0]) ?_ rfl ⟨rfl, ?_⟩
        rotate_left
        · repeat (with_reducible first | exact Below.refl _ _ | refine Below.setCell ?_ (by simp) _ | refine below_drewN ?_ _ | refine Below.drew ?_ | refine Below.alloc ?_ (by simp <;> omega) _)
        simp [results, Try.results18, go_sem, Fr.val]
      · rw [if_neg hc] at HR2
        have HR3 := HR2.out
        clear HR2
        generalize check { kind := (s[0].toNat : Int) % 128, frm := (s[1].toNat : Int), to := (s[2].toNat : Int), src := (s[3].toNat : Int), tgt := (s[4].toNat : Int), seq := 256 * (s[5].toNat : Int) + (s[6].toNat : Int), hops := (s[7].toNat : Int), urg := decide (128 ≤ (s[0].toNat : Int)), dat := s.extract 9 (s.size - 2) } = c at hc HR3 ⊢
        have HR2 := Lib.hid HR3
        clear HR3
        rintro e w1 ⟨rfl, rfl⟩
        go_wp2_with fail
        rw [HR2.out]
        refine bodyPost_ret (v := .tuple #[zeroFr.val, .int .i64 c]) ?_ rfl ⟨rfl, ?_⟩
        rotate_left
        · repeat (with_reducible first | exact Below.refl _ _ | refine Below.setCell ?_ (by simp) _ | refine below_drewN ?_ _ | refine Below.drew ?_ | refine Below.alloc ?_ (by simp <;> omega) _)
        simp [results, Try.results18, go_sem, zeroFr, Fr.val]
end Go.Proofs.Ytiicjbhlcmmijaa
