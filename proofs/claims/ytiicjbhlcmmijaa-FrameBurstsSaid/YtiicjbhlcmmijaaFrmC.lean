/-
  The walks of the reference's encoding of frames, and of the sizes.
-/
import Derived.Test.YtiicjbhlcmmijaaFrmB
open Go Go.RowKit Go.Proofs
namespace Go.Proofs.Ytiicjbhlcmmijaa
open Hub

theorem two_str (n : Int) (h0 : 0 ≤ n) (h1 : n ≤ 65535) : strOfNums [n / 256, n % 256] = mk (two n.toNat) := by
  rw [strOfNums_mk]; simp only [List.map_cons, List.map_nil, two]
  rw [show (n / 256).toNat = n.toNat / 256 from by omega, show (n % 256).toNat = n.toNat % 256 from by omega]

set_option maxHeartbeats 1000000 in
theorem refTwo_eq (n : Int) (w : World) (h0 : 0 ≤ n) (h1 : n ≤ 65535) : Calls Try.prog 25 #[.int .i64 n] w fun e w' => e = .returned (.string (mk (two n.toNat))) ∧ w' = w.alloc (.cells #[.int .u8 (n / 256), .int .u8 (n % 256)] 5) := by
  have hk := conv_lit2 (P := Try.prog) 37 9 5 5 Try.underlying37 Try.underlying5 Try.underlying9
  go_enter Try.func25, Try.ntmps25
  go_wp2
  go_ret
  exact ⟨ret_str (two_str n h0 h1), rfl⟩

theorem refTwo_any (n : Int) (w : World) (h0 : 0 ≤ n) (h1 : n ≤ 65535) : Calls Try.prog 25 #[.int .i64 n] w fun e w' => e = .returned (.string (mk (two n.toNat))) ∧ Below w.heap.size w w' := (refTwo_eq n w h0 h1).mono fun _ _ ⟨he, hw⟩ => ⟨he, hw ▸ (Below.refl _ _).alloc (Nat.le_refl _) _⟩

set_option maxHeartbeats 1000000 in
theorem refSum_any (s : ByteArray) (w : World) (hs : s.size ≤ 1099511627000) : Calls Try.prog 19 #[.string s] w fun e w' => e = .returned (.string (mk (withSum (bl s)))) ∧ Below w.heap.size w w' := by
  have hcl := crc_le (bl s)
  have hws : s ++ mk (two (crc16 (bl s)).toNat) = mk (withSum (bl s)) := by apply bl_inj; rw [bl_append, bl_mk, bl_mk, withSum]
  have HW := Lib.hid hws
  have HC := Lib.hid (fun w => refCrc16_any s w (by omega))
  clear hws
  generalize (crc16 (bl s)).toNat = c at *
  have HT := Lib.hid (fun w => refTwo_any (c : Int) w (by omega) (by omega))
  rw [Int.toNat_natCast] at HT
  have hsz : (mk (two c)).size = 2 := rfl
  generalize mk (two c) = T at *
  go_enter Try.func19, Try.ntmps19
  go_wp2_with fail
  refine (HC.out _).mono ?_
  rintro e w1 ⟨rfl, rfl⟩
  go_wp2_with fail
  refine (HT.out _).mono ?_
  rintro e w2 ⟨rfl, hb⟩
  go_wp2_with fail
  go_ret
  exact ⟨ret_str HW.out, hb⟩

set_option maxHeartbeats 2000000 in
theorem refEncode_any (f : Fr) (w : World) : Calls Try.prog 16 #[.agg #[.int .i64 f.kind, .int .i64 f.frm, .int .i64 f.to, .int .i64 f.src, .int .i64 f.tgt, .int .i64 f.seq, .int .i64 f.hops, .bool f.urg, .string f.dat]] w fun e w' => e = .returned (.tuple #[.string (mk (encD f).1), .int .i64 (encD f).2]) ∧ Below w.heap.size w w' := by
  have HC := Lib.hid (fun w => refCheck_any f w)
  by_cases hz : check f = 0
  · have hv : encD f = (withSum (body f), 0) := by rw [encD, if_pos hz]
    rw [hv]; clear hv
    rw [hz] at HC
    obtain ⟨h1, h2, ⟨⟨r1, r1'⟩, ⟨r2, r2'⟩, r3, r4, r5, r6, r7, r8⟩, h3, _⟩ := check_zero hz
    have q3 : 0 ≤ f.to := by omega
    have q3' : f.to ≤ 255 := by omega
    have q4 : 0 ≤ f.tgt := by omega
    have q4' : f.tgt ≤ 255 := by omega
    clear r3 r4
    have hk5 := conv_lit5 (P := Try.prog) 37 9 5 5 Try.underlying37 Try.underlying5 Try.underlying9
    have hk2 := conv_lit2 (P := Try.prog) 37 9 5 5 Try.underlying37 Try.underlying5 Try.underlying9
    have hsz := strOfNums_size
    have HT := Lib.hid (fun w => refTwo_any f.seq w (by omega) (by omega))
    have hts : (mk (two f.seq.toNat)).size = 2 := rfl
    cases hu : f.urg with
    | true =>
      have hbe : strOfNums [f.kind + 128, f.frm, f.to, f.src, f.tgt] ++ mk (two f.seq.toNat) ++ strOfNums [f.hops, (f.dat.size : Int)] ++ f.dat = mk (body f) := body_str f hz (f.kind + 128) (by rw [hu]; simp)
      have hbl : (mk (body f)).size ≤ 200 := by rw [size_mk]; simp [body, hdr, size_bl]; omega
      have HS := Lib.hid (fun w => refSum_any (mk (body f)) w (by omega))
      rw [bl_mk] at HS
      clear hz
      rw [hu] at HC
      have HB := Lib.hid hbe
      clear hbe
      generalize mk (withSum (body f)) = R at *
      generalize mk (body f) = K at *
      generalize mk (two f.seq.toNat) = T at *
      go_enter Try.func16, Try.ntmps16
      go_wp2_with fail
      refine (HC.out _).mono ?_
      rintro e w1 ⟨rfl, hb⟩
      obtain ⟨hc, hf⟩ := bcell hb
      have hz1 : w.heap.size < w1.heap.size := by have := hb.size; simp at this; omega
      go_wp2_with fail
      refine (HT.out _).mono ?_
      rintro e w2 ⟨rfl, hb2⟩
      obtain ⟨hc2, hf2⟩ := bcell hb2
      have hz2 : w1.heap.size < w2.heap.size := by have := hb2.size; simp at this; omega
      have hz3 : w.heap.size < w2.heap.size := by omega
      go_wp2_with fail
      rw [HB.out]
      refine (HS.out _).mono ?_
      rintro e w3 ⟨rfl, hb3⟩
      go_wp2_with fail
      go_ret2
      exact ⟨rfl, bt ((Below.refl _ _).alloc (Nat.le_refl _) _) (bt hb (bt ((Below.refl _ _).alloc (Nat.le_refl _) _) (bt hb2 (bt ((Below.refl _ _).alloc (Nat.le_refl _) _) hb3))))⟩
    | false =>
      have hbe : strOfNums [f.kind, f.frm, f.to, f.src, f.tgt] ++ mk (two f.seq.toNat) ++ strOfNums [f.hops, (f.dat.size : Int)] ++ f.dat = mk (body f) := body_str f hz (f.kind) (by rw [hu]; simp)
      have hbl : (mk (body f)).size ≤ 200 := by rw [size_mk]; simp [body, hdr, size_bl]; omega
      have HS := Lib.hid (fun w => refSum_any (mk (body f)) w (by omega))
      rw [bl_mk] at HS
      clear hz
      rw [hu] at HC
      have HB := Lib.hid hbe
      clear hbe
      generalize mk (withSum (body f)) = R at *
      generalize mk (body f) = K at *
      generalize mk (two f.seq.toNat) = T at *
      go_enter Try.func16, Try.ntmps16
      go_wp2_with fail
      refine (HC.out _).mono ?_
      rintro e w1 ⟨rfl, hb⟩
      obtain ⟨hc, hf⟩ := bcell hb
      have hz1 : w.heap.size < w1.heap.size := by have := hb.size; simp at this; omega
      go_wp2_with fail
      refine (HT.out _).mono ?_
      rintro e w2 ⟨rfl, hb2⟩
      obtain ⟨hc2, hf2⟩ := bcell hb2
      have hz2 : w1.heap.size < w2.heap.size := by have := hb2.size; simp at this; omega
      have hz3 : w.heap.size < w2.heap.size := by omega
      go_wp2_with fail
      rw [HB.out]
      refine (HS.out _).mono ?_
      rintro e w3 ⟨rfl, hb3⟩
      go_wp2_with fail
      go_ret2
      exact ⟨rfl, bt ((Below.refl _ _).alloc (Nat.le_refl _) _) (bt hb (bt ((Below.refl _ _).alloc (Nat.le_refl _) _) (bt hb2 (bt ((Below.refl _ _).alloc (Nat.le_refl _) _) hb3))))⟩
  · have hv : encD f = ([], check f) := by rw [encD, if_neg hz]
    rw [hv]
    clear hv
    have hz' : (check f == 0) = false := by simpa using hz
    have hz2 : (check f != 0) = true := by simpa using hz
    clear hz
    generalize check f = r at *
    go_enter Try.func16, Try.ntmps16
    go_wp2_with fail
    refine (HC.out _).mono ?_
    rintro e w1 ⟨rfl, hb⟩
    go_wp2_with fail
    go_ret2
    exact ⟨rfl, bt ((Below.refl _ _).alloc (Nat.le_refl _) _) hb⟩

set_option maxHeartbeats 1000000 in
theorem size_any (f : Fr) (w : World) : Calls Try.prog 13 #[.agg #[.int .i64 f.kind, .int .i64 f.frm, .int .i64 f.to, .int .i64 f.src, .int .i64 f.tgt, .int .i64 f.seq, .int .i64 f.hops, .bool f.urg, .string f.dat]] w fun e w' => e = .returned (.int .i64 (if check f = 0 then 11 + f.dat.size else 0)) ∧ Below w.heap.size w w' := by
  have HC := Lib.hid (fun w => check_any f w)
  by_cases hz : check f = 0
  · rw [if_pos hz]
    rw [hz] at HC
    have h109 := (check_zero hz).2.2.2.1
    clear hz
    go_enter Try.func13, Try.ntmps13
    go_wp2_with fail
    refine (HC.out _).mono ?_
    rintro e w1 ⟨rfl, hb⟩
    obtain ⟨hc, hf⟩ := bcell hb
    have hz1 : w.heap.size < w1.heap.size := by have := hb.size; simp at this; omega
    go_wp2_with fail
    go_ret
    exact ⟨rfl, bt ((Below.refl _ _).alloc (Nat.le_refl _) _) hb⟩
  · rw [if_neg hz]
    have hz' : (check f == 0) = false := by simpa using hz
    have hz2 : (check f != 0) = true := by simpa using hz
    clear hz
    generalize check f = r at *
    go_enter Try.func13, Try.ntmps13
    go_wp2_with fail
    refine (HC.out _).mono ?_
    rintro e w1 ⟨rfl, hb⟩
    go_wp2_with fail
    go_ret
    exact ⟨rfl, bt ((Below.refl _ _).alloc (Nat.le_refl _) _) hb⟩

set_option maxHeartbeats 1000000 in
theorem refSize_any (f : Fr) (w : World) : Calls Try.prog 14 #[.agg #[.int .i64 f.kind, .int .i64 f.frm, .int .i64 f.to, .int .i64 f.src, .int .i64 f.tgt, .int .i64 f.seq, .int .i64 f.hops, .bool f.urg, .string f.dat]] w fun e w' => e = .returned (.int .i64 (if check f = 0 then 11 + f.dat.size else 0)) ∧ Below w.heap.size w w' := by
  have HC := Lib.hid (fun w => refCheck_any f w)
  by_cases hz : check f = 0
  · rw [if_pos hz]
    rw [hz] at HC
    have h109 := (check_zero hz).2.2.2.1
    clear hz
    go_enter Try.func14, Try.ntmps14
    go_wp2_with fail
    refine (HC.out _).mono ?_
    rintro e w1 ⟨rfl, hb⟩
    obtain ⟨hc, hf⟩ := bcell hb
    have hz1 : w.heap.size < w1.heap.size := by have := hb.size; simp at this; omega
    go_wp2_with fail
    go_ret
    exact ⟨rfl, bt ((Below.refl _ _).alloc (Nat.le_refl _) _) hb⟩
  · rw [if_neg hz]
    have hz' : (check f == 0) = false := by simpa using hz
    have hz2 : (check f != 0) = true := by simpa using hz
    clear hz
    generalize check f = r at *
    go_enter Try.func14, Try.ntmps14
    go_wp2_with fail
    refine (HC.out _).mono ?_
    rintro e w1 ⟨rfl, hb⟩
    go_wp2_with fail
    go_ret
    exact ⟨rfl, bt ((Below.refl _ _).alloc (Nat.le_refl _) _) hb⟩
end Go.Proofs.Ytiicjbhlcmmijaa
