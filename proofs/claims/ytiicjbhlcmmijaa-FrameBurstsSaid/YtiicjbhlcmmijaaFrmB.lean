/-
  The walks of the encoding of frames, the program's and the reference's.
-/
import Derived.Test.YtiicjbhlcmmijaaFrmA
import Derived.Test.YtiicjbhlcmmijaaCrA
import Derived.Test.YtiicjbhlcmmijaaCrB
import Derived.Test.YtiicjbhlcmmijaaOwn
open Go Go.RowKit Go.Proofs
namespace Go.Proofs.Ytiicjbhlcmmijaa
open Hub

theorem two_cell (w : World) (c : Nat) (hc : c ≤ 65535) : ∀ j (hj : j < (two c).length), (w.alloc (.cells #[.int .u8 ((c : Int) / 256), .int .u8 ((c : Int) % 256)] 5)).cell? ⟨w.heap.size, j, none⟩ = some (.int .u8 ((two c)[j].toNat : Int)) := by
  intro j hj
  match j, hj with
  | 0, _ => simp [two]; omega
  | 1, _ => simp [two]
theorem crc_le (l : List UInt8) : (crc16 l).toNat ≤ 65535 := by have := (crc16 l).isLt; omega

theorem bcell {W w1 : World} (hb : Below W.heap.size W w1) : (∀ b o, b < W.heap.size → w1.cell? ⟨b, o, none⟩ = W.cell? ⟨b, o, none⟩) ∧ (∀ b o, b < W.heap.size → w1.frozen? ⟨b, o, none⟩ = W.frozen? ⟨b, o, none⟩) :=
  ⟨fun b o h => hb.cell (p := ⟨b, o, none⟩) h, fun b o h => hb.frozen (p := ⟨b, o, none⟩) h⟩

set_option maxHeartbeats 2000000 in
theorem encode_any (f : Fr) (w : World) : Calls Try.prog 15 #[.agg #[.int .i64 f.kind, .int .i64 f.frm, .int .i64 f.to, .int .i64 f.src, .int .i64 f.tgt, .int .i64 f.seq, .int .i64 f.hops, .bool f.urg, .string f.dat]] w fun e w' => e = .returned (.tuple #[.string (mk (encD f).1), .int .i64 (encD f).2]) ∧ Below w.heap.size w w' := by
  have HC := Lib.hid (fun w => check_any f w)
  by_cases hz : check f = 0
  · have hv : encD f = (withSum (body f), 0) := by rw [encD, if_pos hz]
    rw [hv]; clear hv
    rw [hz] at HC
    obtain ⟨h1, h2, ⟨⟨r1, r1'⟩, ⟨r2, r2'⟩, r3, r4, r5, r6, r7, r8⟩, h3, _⟩ := check_zero hz
    have q3 : 0 ≤ f.to := by omega
    have q3' : f.to ≤ 255 := by omega
    have q4 : 0 ≤ f.tgt := by omega
    have q4' : f.tgt ≤ 255 := by omega
    clear r3 r4
    cases hu : f.urg with
    | true =>
      have hh := hdr_vals f hz (f.kind + 128) (by rw [hu]; simp)
      clear hz
      have HH := Lib.hid hh
      clear hh
      rw [hu] at HC
      go_enter Try.func15, Try.ntmps15
      go_wp2_with fail
      refine (HC.out _).mono ?_
      rintro e w1 ⟨rfl, hb⟩
      obtain ⟨hc, hf⟩ := bcell hb
      have hz1 : w.heap.size < w1.heap.size := by have := hb.size; simp at this; omega
      have hlb : (body f).length ≤ 200 := by simp [body, hdr, size_bl]; omega
      go_wp2_with (first
        | (at_builtin; refine step_appS rfl _ _ rfl w1.heap.size _ (hdr f) rfl (OwnB.lit w1 w1.heap.size _ (hdr f) HH.out.symm (Nat.le_refl _) (by simp [hdr])) _ rfl (by simp [hdr]; omega) (by simp) ?_; intro v2 w2 hown2 hb2)
        | (refine step_strO rfl _ rfl w1.heap.size _ (body f) rfl hown2 ?_))
      have hL : (bl (mk (body f))) = body f := rfl
      refine (crc16_any _ _ (by rw [size_mk]; omega)).mono ?_
      rintro e w3 ⟨rfl, rfl⟩
      rw [hL]
      clear hL
      have hcl := crc_le (body f)
      have hws : withSum (body f) = body f ++ two (crc16 (body f)).toNat := rfl
      have HW := Lib.hid hws
      clear hws
      generalize (crc16 (body f)).toNat = cs at *
      go_wp2_with (first
        | (at_builtin; refine step_appB rfl _ _ rfl w1.heap.size _ (body f) (two cs) 2 w2.heap.size rfl (hown2.alloc _) rfl (two_cell w2 cs hcl) (by simp [two]; omega) (by have := hb2.size; simp at this ⊢; omega) ?_; intro v4 w4 hown4 hb4)
        | (refine step_strO rfl _ rfl w1.heap.size _ _ rfl hown4 ?_))
      go_ret2
      rw [HW.out]
      refine ⟨rfl, bt ((Below.refl _ _).alloc (Nat.le_refl _) _) (hb.trans ?_)⟩
      have hs2 := hb2.size
      simp at hs2
      refine Below.trans (((Below.refl w1.heap.size w1).alloc (Nat.le_refl _) _).trans hb2 |>.mono (Nat.le_trans hb.size (Nat.le_refl _))) ?_
      exact (((Below.refl _ _).alloc (by omega) _).trans hb4).mono hb.size
    | false =>
      have hh := hdr_vals f hz (f.kind) (by rw [hu]; simp)
      clear hz
      have HH := Lib.hid hh
      clear hh
      rw [hu] at HC
      go_enter Try.func15, Try.ntmps15
      go_wp2_with fail
      refine (HC.out _).mono ?_
      rintro e w1 ⟨rfl, hb⟩
      obtain ⟨hc, hf⟩ := bcell hb
      have hz1 : w.heap.size < w1.heap.size := by have := hb.size; simp at this; omega
      have hlb : (body f).length ≤ 200 := by simp [body, hdr, size_bl]; omega
      go_wp2_with (first
        | (at_builtin; refine step_appS rfl _ _ rfl w1.heap.size _ (hdr f) rfl (OwnB.lit w1 w1.heap.size _ (hdr f) HH.out.symm (Nat.le_refl _) (by simp [hdr])) _ rfl (by simp [hdr]; omega) (by simp) ?_; intro v2 w2 hown2 hb2)
        | (refine step_strO rfl _ rfl w1.heap.size _ (body f) rfl hown2 ?_))
      have hL : (bl (mk (body f))) = body f := rfl
      refine (crc16_any _ _ (by rw [size_mk]; omega)).mono ?_
      rintro e w3 ⟨rfl, rfl⟩
      rw [hL]
      clear hL
      have hcl := crc_le (body f)
      have hws : withSum (body f) = body f ++ two (crc16 (body f)).toNat := rfl
      have HW := Lib.hid hws
      clear hws
      generalize (crc16 (body f)).toNat = cs at *
      go_wp2_with (first
        | (at_builtin; refine step_appB rfl _ _ rfl w1.heap.size _ (body f) (two cs) 2 w2.heap.size rfl (hown2.alloc _) rfl (two_cell w2 cs hcl) (by simp [two]; omega) (by have := hb2.size; simp at this ⊢; omega) ?_; intro v4 w4 hown4 hb4)
        | (refine step_strO rfl _ rfl w1.heap.size _ _ rfl hown4 ?_))
      go_ret2
      rw [HW.out]
      refine ⟨rfl, bt ((Below.refl _ _).alloc (Nat.le_refl _) _) (hb.trans ?_)⟩
      have hs2 := hb2.size
      simp at hs2
      refine Below.trans (((Below.refl w1.heap.size w1).alloc (Nat.le_refl _) _).trans hb2 |>.mono (Nat.le_trans hb.size (Nat.le_refl _))) ?_
      exact (((Below.refl _ _).alloc (by omega) _).trans hb4).mono hb.size
  · have hv : encD f = ([], check f) := by rw [encD, if_neg hz]
    rw [hv]
    clear hv
    have hz' : (check f == 0) = false := by simpa using hz
    have hz2 : (check f != 0) = true := by simpa using hz
    clear hz
    generalize check f = r at *
    go_enter Try.func15, Try.ntmps15
    go_wp2_with fail
    refine (HC.out _).mono ?_
    rintro e w1 ⟨rfl, hb⟩
    go_wp2_with fail
    go_ret2
    exact ⟨rfl, bt ((Below.refl _ _).alloc (Nat.le_refl _) _) hb⟩
end Go.Proofs.Ytiicjbhlcmmijaa
