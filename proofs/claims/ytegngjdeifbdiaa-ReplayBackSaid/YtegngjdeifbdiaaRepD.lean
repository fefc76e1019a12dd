/-
  The walks of sealing and opening messages, the program's and the reference's.
-/
import Derived.Test.YtegngjdeifbdiaaRepC
import Derived.Test.YtegngjdeifbdiaaDigC
import Derived.Deep.RegionWith
open Go Go.RowKit Go.Proofs
namespace Go.Proofs.Ytegngjdeifbdiaa
namespace Hub
def inRng (node n : Int) : Prop := (0 ≤ node ∧ node ≤ 250) ∧ (0 ≤ n ∧ n ≤ 1099511627776)
instance (node n : Int) : Decidable (inRng node n) := by unfold inRng; infer_instance
def msg (node n : Int) (s : List UInt8) : List UInt8 := enc node ++ enc n ++ encT s
def sealR (key : Nat) (node n : Int) (s : List UInt8) : List UInt8 × Int :=
  if ¬ inRng node n then ([], 2) else if 1000 < s.length then ([], 3) else (sealD key (msg node n s), 0)
/-- The three fields of a message, and the state behind them. -/
def rd1 (l : List UInt8) : Int × Rs := rInt ⟨l, 0⟩
def rd2 (l : List UInt8) : Int × Rs := rInt (rd1 l).2
def rd3 (l : List UInt8) : List UInt8 × Rs := rText 1000 (rd2 l).2
def openR (key : Nat) (node t b : Int) (l : List UInt8) : List UInt8 × (Int × Int) × Int :=
  if (openD key l).2 ≠ 0 then ([], (t, b), (openD key l).2) else
  if rEnd (rd3 (openD key l).1).2 ≠ 0 then ([], (t, b), rEnd (rd3 (openD key l).1).2) else
  if ¬ ((rd1 (openD key l).1).1 = node ∧ inRng node (rd2 (openD key l).1).1) then ([], (t, b), 2) else
  if (acc t b (rd2 (openD key l).1).1).2.2 = false then ([], (t, b), 18) else
  ((rd3 (openD key l).1).1, ((acc t b (rd2 (openD key l).1).1).1, (acc t b (rd2 (openD key l).1).1).2.1), 0)
theorem openD_len (key : Nat) (l : List UInt8) : (openD key l).1.length ≤ l.length := by
  rw [openD]
  split
  · exact Nat.zero_le _
  · split
    · rw [List.length_take]; omega
    · exact Nat.zero_le _
end Hub
open Hub

theorem eqi (d : Nat) (a c : Int) (w : World) : (Op.equalIn (d + 1) 3 (.int .i64 a) (.int .i64 c)).run Try.prog w = .ok (a == c) w := by
  simp [Op.equalIn, run_underlying Try.underlying3]
theorem neq_arr (a b c d : Int) (w : World) : (binOp .neq 46 (.agg #[.int .i64 a, .int .i64 b]) (.agg #[.int .i64 c, .int .i64 d])).run Try.prog w = .ok (.bool (!(a == c && b == d))) w := by
  rw [run_neq_struct, show (10000 : Nat) = 9998 + 1 + 1 from rfl]
  have hp : ∀ (x y : Int) w, (part 3 #[.int .i64 x, .int .i64 y] 0).run Try.prog w = .ok (.int .i64 x) w := by
    intro x y w; simp [part, Try.isAgg3, go_sem]
  have hq : ∀ (x y : Int) w, (part 3 #[.int .i64 x, .int .i64 y] 1).run Try.prog w = .ok (.int .i64 y) w := by
    intro x y w; simp [part, Try.isAgg3, go_sem]
  unfold Op.equalIn
  simp only [Sem.run_bind, run_underlying Try.underlying46, Result.andThen_ok, Try.sizeOf3]
  simp only [Std.Legacy.Range.forIn_eq_forIn_range', Std.Legacy.Range.size]
  simp [List.range', hp, hq, eqi]
  by_cases h1 : a = c <;> by_cases h2 : b = d <;> simp [h1, h2]

set_option maxHeartbeats 2000000 in
theorem inside_any (a n : Int) (w : World) : Calls Try.prog 20 #[.int .i64 a, .int .i64 n] w fun e w' => e = .returned (.agg #[.int .i64 (max 0 (min a 250)), .int .i64 (max 0 (min n 1099511627776))]) ∧ Below w.heap.size w w' := by
  go_enter Try.func20, Try.ntmps20
  go_wp2
  refine bodyPost_ret (v := .agg #[.int .i64 (max 0 (min a 250)), .int .i64 (max 0 (min n 1099511627776))]) ?_ rfl ⟨rfl, ?_⟩
  · simp [results, Try.results20, go_sem]
  · exact (Below.refl _ _).alloc (Nat.le_refl _) _

set_option maxHeartbeats 2000000 in
theorem wSeal_any (key node n : Int) (s : ByteArray) (w : World) (hk0 : 0 ≤ key) (hk1 : key ≤ 18446744073709551615) (hs : s.size ≤ 9223372036854775807) :
    Calls Try.prog 14 #[.int .u64 key, .int .i64 node, .int .i64 n, .string s] w fun e w' => e = .returned (.tuple #[.string (mk (sealR key.toNat node n (bl s)).1), .int .i64 (sealR key.toNat node n (bl s)).2]) ∧ Below w.heap.size w w' := by
  have HI := Lib.hid (fun w => inside_any node n w)
  have hneq := neq_arr
  by_cases hr : inRng node n
  · have e1 : max 0 (min node 250) = node := by obtain ⟨⟨h1, h2⟩, _⟩ := hr; omega
    have e2 : max 0 (min n 1099511627776) = n := by obtain ⟨_, h1, h2⟩ := hr; omega
    rw [e1, e2] at HI
    clear e1 e2
    by_cases hl : s.size ≤ 1000
    · have hv : sealR key.toNat node n (bl s) = (sealD key.toNat (msg node n (bl s)), 0) := by rw [sealR, if_neg (by simpa using hr), if_neg (by rw [size_bl]; omega)]
      obtain ⟨⟨r1, r2⟩, r3, r4⟩ := hr
      have A1 := Lib.hid (fun w => wInt_any node w (by omega) (by omega))
      have A2 := Lib.hid (fun w => wInt_any n w (by omega) (by omega))
      have A3 := Lib.hid (fun w => wText_any s w (by omega))
      have l1 : (mk (enc node)).size ≤ 10 := enc_length node (by omega) (by omega)
      have l2 : (mk (enc n)).size ≤ 10 := enc_length n (by omega) (by omega)
      have l3 : (mk (encT (bl s))).size ≤ 1010 := by
        have := enc_length (bl s).length (by omega) (by rw [size_bl]; omega)
        rw [size_mk, encT, List.length_append, size_bl] at *; omega
      have hm : mk (enc node) ++ mk (enc n) ++ mk (encT (bl s)) = mk (msg node n (bl s)) := by
        apply bl_inj; rw [bl_append, bl_append, bl_mk, bl_mk, bl_mk, bl_mk, msg]
      have l4 : (mk (msg node n (bl s))).size ≤ 1099511627760 := by rw [← hm, ByteArray.size_append, ByteArray.size_append]; omega
      have A4 := Lib.hid (fun w => seal_any key (mk (msg node n (bl s))) w hk0 hk1 l4)
      rw [bl_mk] at A4
      have HM := Lib.hid hm
      rw [hv]; clear hv hm hk1 hs r1 r2 r3 r4 l4
      generalize sealD key.toNat (msg node n (bl s)) = R at *
      generalize mk (enc node) = K1 at *
      generalize mk (enc n) = K2 at *
      generalize mk (encT (bl s)) = K3 at *
      go_enter Try.func14, Try.ntmps14
      go_wp2_with fail
      refine (HI.out _).mono ?_
      rintro e w1 ⟨rfl, hb1⟩
      go_wp2_with fail
      refine (A1.out _).mono ?_
      rintro e w2 ⟨rfl, hb2⟩
      go_wp2_with fail
      refine (A2.out _).mono ?_
      rintro e w3 ⟨rfl, hb3⟩
      go_wp2_with fail
      refine (A3.out _).mono ?_
      rintro e w4 ⟨rfl, hb4⟩
      go_wp2_with fail
      rw [HM.out]
      refine (A4.out _).mono ?_
      rintro e w5 ⟨rfl, hb5⟩
      go_wp2_with fail
      go_ret2
      exact ⟨rfl, bt (bt (bt (bt hb1 hb2) hb3) hb4) hb5⟩
    · have hv : sealR key.toNat node n (bl s) = ([], 3) := by rw [sealR, if_neg (by simpa using hr), if_pos (by rw [size_bl]; omega)]
      have hli : (1000 : Int) < (s.size : Int) := by omega
      rw [hv]; clear hv hl hr hk1
      go_enter Try.func14, Try.ntmps14
      go_wp2_with fail
      refine (HI.out _).mono ?_
      rintro e w1 ⟨rfl, hb1⟩
      go_wp2_with fail
      go_ret2
      exact ⟨rfl, hb1⟩
  · have hv : sealR key.toNat node n (bl s) = ([], 2) := by rw [sealR, if_pos hr]
    have hne : ¬ (max 0 (min node 250) = node ∧ max 0 (min n 1099511627776) = n) := by
      intro ⟨h1, h2⟩
      exact hr ⟨by omega, by omega⟩
    generalize max 0 (min node 250) = x1 at *
    generalize max 0 (min n 1099511627776) = x2 at *
    have hnb : (x1 == node && x2 == n) = false := by
      cases hz : (x1 == node && x2 == n) with
      | false => rfl
      | true => simp only [Bool.and_eq_true, beq_iff_eq] at hz; exact absurd hz hne
    rw [hv]; clear hv hr hk1 hne
    go_enter Try.func14, Try.ntmps14
    go_wp2_with fail
    refine (HI.out _).mono ?_
    rintro e w1 ⟨rfl, hb1⟩
    go_wp2_with fail
    go_ret2
    exact ⟨rfl, hb1⟩

set_option maxHeartbeats 2000000 in
theorem xSeal_any (key node n : Int) (s : ByteArray) (w : World) (hk0 : 0 ≤ key) (hk1 : key ≤ 18446744073709551615) (hs : s.size ≤ 9223372036854775807) :
    Calls Try.prog 15 #[.int .u64 key, .int .i64 node, .int .i64 n, .string s] w fun e w' => e = .returned (.tuple #[.string (mk (sealR key.toNat node n (bl s)).1), .int .i64 (sealR key.toNat node n (bl s)).2]) ∧ Below w.heap.size w w' := by
  by_cases hr : inRng node n
  · by_cases hl : s.size ≤ 1000
    · have hv : sealR key.toNat node n (bl s) = (sealD key.toNat (msg node n (bl s)), 0) := by rw [sealR, if_neg (by simpa using hr), if_neg (by rw [size_bl]; omega)]
      obtain ⟨⟨r1, r2⟩, r3, r4⟩ := hr
      have A1 := Lib.hid (fun w => refInt_any node w (by omega) (by omega))
      have A2 := Lib.hid (fun w => refInt_any n w (by omega) (by omega))
      have A3 := Lib.hid (fun w => refText_any s w (by omega))
      have l1 : (mk (enc node)).size ≤ 10 := enc_length node (by omega) (by omega)
      have l2 : (mk (enc n)).size ≤ 10 := enc_length n (by omega) (by omega)
      have l3 : (mk (encT (bl s))).size ≤ 1010 := by
        have := enc_length (bl s).length (by omega) (by rw [size_bl]; omega)
        rw [size_mk, encT, List.length_append, size_bl] at *; omega
      have hm : mk (enc node) ++ mk (enc n) ++ mk (encT (bl s)) = mk (msg node n (bl s)) := by
        apply bl_inj; rw [bl_append, bl_append, bl_mk, bl_mk, bl_mk, bl_mk, msg]
      have l4 : (mk (msg node n (bl s))).size ≤ 1099511627760 := by rw [← hm, ByteArray.size_append, ByteArray.size_append]; omega
      have A4 := Lib.hid (fun w => refSeal_any key (mk (msg node n (bl s))) w hk0 hk1 l4)
      rw [bl_mk] at A4
      have HM := Lib.hid hm
      rw [hv]; clear hv hm hk1 hs l4
      generalize sealD key.toNat (msg node n (bl s)) = R at *
      generalize mk (enc node) = K1 at *
      generalize mk (enc n) = K2 at *
      generalize mk (encT (bl s)) = K3 at *
      go_enter Try.func15, Try.ntmps15
      go_wp2_with fail
      refine (A1.out _).mono ?_
      rintro e w2 ⟨rfl, hb2⟩
      go_wp2_with fail
      refine (A2.out _).mono ?_
      rintro e w3 ⟨rfl, hb3⟩
      go_wp2_with fail
      refine (A3.out _).mono ?_
      rintro e w4 ⟨rfl, hb4⟩
      go_wp2_with fail
      rw [HM.out]
      refine (A4.out _).mono ?_
      rintro e w5 ⟨rfl, hb5⟩
      go_wp2_with fail
      go_ret2
      exact ⟨rfl, bt (bt (bt hb2 hb3) hb4) hb5⟩
    · have hv : sealR key.toNat node n (bl s) = ([], 3) := by rw [sealR, if_neg (by simpa using hr), if_pos (by rw [size_bl]; omega)]
      have hli : (1000 : Int) < (s.size : Int) := by omega
      obtain ⟨⟨r1, r2⟩, r3, r4⟩ := hr
      rw [hv]; clear hv hl hk1
      go_enter Try.func15, Try.ntmps15
      go_wp2_with fail
      go_ret2
      exact ⟨rfl, Below.refl _ _⟩
  · have hv : sealR key.toNat node n (bl s) = ([], 2) := by rw [sealR, if_pos hr]
    have hr' : node < 0 ∨ 250 < node ∨ n < 0 ∨ 1099511627776 < n := by unfold inRng at hr; omega
    rw [hv]; clear hv hr hk1
    go_enter Try.func15, Try.ntmps15
    go_wp2_with fail
    all_goals first | (exfalso; omega) | (go_ret2; exact ⟨rfl, Below.refl _ _⟩)

set_option maxRecDepth 20000 in
set_option maxHeartbeats 8000000 in
theorem wOpen_any (key node t b : Int) (s : ByteArray) (w : World) (hk0 : 0 ≤ key) (hk1 : key ≤ 18446744073709551615) (h0 : 0 ≤ b) (h1 : b ≤ 18446744073709551615) (hs : s.size ≤ 1099511627760) :
    Calls Try.prog 16 #[.int .u64 key, .int .i64 node, .agg #[.int .i64 t, .int .u64 b], .string s] w fun e w' => e = .returned (.tuple #[.string (mk (openR key.toNat node t b (bl s)).1), .agg #[.int .i64 (openR key.toNat node t b (bl s)).2.1.1, .int .u64 (openR key.toNat node t b (bl s)).2.1.2], .int .i64 (openR key.toNat node t b (bl s)).2.2]) ∧ Below w.heap.size w w' := by
  have hneq := neq_arr
  have HW := Lib.hid (((Below.refl w.heap.size w).alloc (Nat.le_refl _) (.cells #[.int .i64 t, .int .u64 b] 24)).alloc (by simp) (.cells #[.int .i64 0, .int .u64 0] 24))
  have hplen := openD_len key.toNat (bl s)
  rw [size_bl] at hplen
  have A0 := Lib.hid (fun w => open_any key s w hk0 hk1 hs)
  obtain ⟨O, hv⟩ : ∃ O, O = openR key.toNat node t b (bl s) := ⟨_, rfl⟩
  rw [← hv]
  unfold openR rd3 rd2 rd1 at hv
  generalize (openD key.toNat (bl s)).2 = E at *
  generalize (openD key.toNat (bl s)).1 = P at *
  have A1 := Lib.hid (fun w => wNew_any (mk P) w (by rw [size_mk]; omega))
  rw [bl_mk] at A1
  have A2 := Lib.hid (fun B w h => wrInt_any B ⟨P, 0⟩ w h)
  generalize (rInt ⟨P, 0⟩).1 = fr at *
  generalize (rInt ⟨P, 0⟩).2 = r1 at *
  have A3 := Lib.hid (fun B w h => wrInt_any B r1 w h)
  generalize (rInt r1).1 = n at *
  generalize (rInt r1).2 = r2 at *
  have A4 := Lib.hid (fun B w h => wrText_any B r2 1000 w h)
  generalize (rText 1000 r2).1 = Q at *
  generalize (rText 1000 r2).2 = r3 at *
  have A5 := Lib.hid (fun B w h => wEnd_any B r3 w h)
  generalize rEnd r3 = E2 at *
  have A6 := Lib.hid (fun w => wAcc_any t b n w h0 h1)
  generalize (acc t b n).1 = t2 at *
  generalize (acc t b n).2.1 = b2 at *
  generalize (acc t b n).2.2 = ok at *
  clear hk1 h1 hplen hs
  generalize mk P = PB at *
  by_cases hE : E = 0
  · rw [if_neg (by omega)] at hv
    have hEb : (E != 0) = false := by simpa using hE
    clear hE
    by_cases hE2 : E2 = 0
    · rw [if_neg (by omega)] at hv
      have hE2b : (E2 != 0) = false := by simpa using hE2
      clear hE2
      by_cases hin : fr = node ∧ inRng node n
      · rw [if_neg (by simpa using hin)] at hv
        obtain ⟨hfr, ⟨g1, g2⟩, g3, g4⟩ := hin
        have A7 := Lib.hid (fun w => inside_any node n w)
        rw [show max 0 (min node 250) = node from by omega, show max 0 (min n 1099511627776) = n from by omega] at A7
        subst hfr
        clear g1 g2 g3 g4
        cases ok with
        | false =>
          rw [if_pos rfl] at hv
          rw [hv]; clear hv
          go_enter Try.func16, Try.ntmps16
          go_wp2_with fail
          refine (A0.out _).mono ?_
          rintro e w1 ⟨rfl, hb1⟩
          go_wp2_with fail
          refine (A1.out _).mono ?_
          rintro e w2 ⟨rfl, hr2, hb2, hs2⟩
          go_wp2_with fail
          refine (A2.out _ _ hr2).mono ?_
          rintro e w3 ⟨rfl, hr3, ht3⟩
          go_wp2_with fail
          refine (A3.out _ _ hr3).mono ?_
          rintro e w4 ⟨rfl, hr4, ht4⟩
          go_wp2_with fail
          refine (A4.out _ _ hr4).mono ?_
          rintro e w5 ⟨rfl, hr5, ht5⟩
          go_wp2_with fail
          refine (A5.out _ _ hr5).mono ?_
          rintro e w6 ⟨rfl, rfl⟩
          have hbr : Below (w.heap.size + 2) ((w.alloc (.cells #[.int .i64 t, .int .u64 b] 24)).alloc (.cells #[.int .i64 0, .int .u64 0] 24)) w5 := ((hb1.mono (by simp)).trans (hb2.mono (Nat.le_trans (by simp) hb1.size))).trans (((ht3.trans ht4).trans ht5).below (Nat.le_trans (by simp) hb1.size) (Nat.le_trans (Nat.le_trans (by simp) hb1.size) hb2.size))
          go_wp2_with fail
          refine (A7.out _).mono ?_
          rintro e w7 ⟨rfl, hb7⟩
          have hbr := hbr.trans (hb7.mono (Nat.le_trans (by simp) hbr.size))
          have c0 : w7.cell? ⟨w.heap.size, 0, none⟩ = some (.int .i64 t) := (hbr.cell (p := ⟨w.heap.size, 0, none⟩) (by simp)).trans (by simp)
          have c1 : w7.cell? ⟨w.heap.size, 1, none⟩ = some (.int .u64 b) := (hbr.cell (p := ⟨w.heap.size, 1, none⟩) (by simp)).trans (by simp)
          have d0 : w7.cell? ⟨w.heap.size + 1, 0, none⟩ = some (.int .i64 0) := (hbr.cell (p := ⟨w.heap.size + 1, 0, none⟩) (by simp)).trans (by simp)
          have d1 : w7.cell? ⟨w.heap.size + 1, 1, none⟩ = some (.int .u64 0) := (hbr.cell (p := ⟨w.heap.size + 1, 1, none⟩) (by simp)).trans (by simp)
          have f0 : w7.frozen? ⟨w.heap.size + 1, 0, none⟩ = false := (hbr.frozen (p := ⟨w.heap.size + 1, 0, none⟩) (by simp)).trans (by simp)
          have f1 : w7.frozen? ⟨w.heap.size + 1, 1, none⟩ = false := (hbr.frozen (p := ⟨w.heap.size + 1, 1, none⟩) (by simp)).trans (by simp)
          have hz1 : w.heap.size + 1 < w7.heap.size := by have := hbr.size; simp at this; omega
          have hz0 : w.heap.size < w7.heap.size := by omega
          go_wp2_with fail
          refine (A6.out _).mono ?_
          rintro e w8 ⟨rfl, hb8⟩
          have hbr := hbr.trans (hb8.mono (Nat.le_trans (by simp) hbr.size))
          clear c0 c1 d0 d1 f0 f1 hz1 hz0
          have c0 : w8.cell? ⟨w.heap.size, 0, none⟩ = some (.int .i64 t) := (hbr.cell (p := ⟨w.heap.size, 0, none⟩) (by simp)).trans (by simp)
          have c1 : w8.cell? ⟨w.heap.size, 1, none⟩ = some (.int .u64 b) := (hbr.cell (p := ⟨w.heap.size, 1, none⟩) (by simp)).trans (by simp)
          have d0 : w8.cell? ⟨w.heap.size + 1, 0, none⟩ = some (.int .i64 0) := (hbr.cell (p := ⟨w.heap.size + 1, 0, none⟩) (by simp)).trans (by simp)
          have d1 : w8.cell? ⟨w.heap.size + 1, 1, none⟩ = some (.int .u64 0) := (hbr.cell (p := ⟨w.heap.size + 1, 1, none⟩) (by simp)).trans (by simp)
          have f0 : w8.frozen? ⟨w.heap.size + 1, 0, none⟩ = false := (hbr.frozen (p := ⟨w.heap.size + 1, 0, none⟩) (by simp)).trans (by simp)
          have f1 : w8.frozen? ⟨w.heap.size + 1, 1, none⟩ = false := (hbr.frozen (p := ⟨w.heap.size + 1, 1, none⟩) (by simp)).trans (by simp)
          have hz1 : w.heap.size + 1 < w8.heap.size := by have := hbr.size; simp at this; omega
          have hz0 : w.heap.size < w8.heap.size := by omega
          go_wp2_with fail
          have rr := two_cells d0 d1 hz1 (.int .i64 t) (.int .u64 b) (.cells #[.int .i64 t2, .int .u64 b2] 24)
          go_region
          all_goals go_wp2_with fail
          all_goals (refine bodyPost_ret (v := .tuple #[.string { data := #[] }, .agg #[.int .i64 t, .int .u64 b], .int .i64 18]) ?_ rfl ⟨rfl, ?_⟩)
          rotate_left
          · exact ((((HW.out.trans (hbr.mono (by omega))).setCell (p := ⟨w.heap.size + 1, 0, none⟩) (by simp) _).setCell (p := ⟨w.heap.size + 1, 1, none⟩) (by simp) _).alloc (by simp [World.setCell]; omega) _).drew
          all_goals simp [results, Try.results16, go_sem, rr.1, rr.2]
        | true =>
          rw [if_neg (by simp)] at hv
          rw [hv]; clear hv
          go_enter Try.func16, Try.ntmps16
          go_wp2_with fail
          refine (A0.out _).mono ?_
          rintro e w1 ⟨rfl, hb1⟩
          go_wp2_with fail
          refine (A1.out _).mono ?_
          rintro e w2 ⟨rfl, hr2, hb2, hs2⟩
          go_wp2_with fail
          refine (A2.out _ _ hr2).mono ?_
          rintro e w3 ⟨rfl, hr3, ht3⟩
          go_wp2_with fail
          refine (A3.out _ _ hr3).mono ?_
          rintro e w4 ⟨rfl, hr4, ht4⟩
          go_wp2_with fail
          refine (A4.out _ _ hr4).mono ?_
          rintro e w5 ⟨rfl, hr5, ht5⟩
          go_wp2_with fail
          refine (A5.out _ _ hr5).mono ?_
          rintro e w6 ⟨rfl, rfl⟩
          have hbr : Below (w.heap.size + 2) ((w.alloc (.cells #[.int .i64 t, .int .u64 b] 24)).alloc (.cells #[.int .i64 0, .int .u64 0] 24)) w5 := ((hb1.mono (by simp)).trans (hb2.mono (Nat.le_trans (by simp) hb1.size))).trans (((ht3.trans ht4).trans ht5).below (Nat.le_trans (by simp) hb1.size) (Nat.le_trans (Nat.le_trans (by simp) hb1.size) hb2.size))
          go_wp2_with fail
          refine (A7.out _).mono ?_
          rintro e w7 ⟨rfl, hb7⟩
          have hbr := hbr.trans (hb7.mono (Nat.le_trans (by simp) hbr.size))
          have c0 : w7.cell? ⟨w.heap.size, 0, none⟩ = some (.int .i64 t) := (hbr.cell (p := ⟨w.heap.size, 0, none⟩) (by simp)).trans (by simp)
          have c1 : w7.cell? ⟨w.heap.size, 1, none⟩ = some (.int .u64 b) := (hbr.cell (p := ⟨w.heap.size, 1, none⟩) (by simp)).trans (by simp)
          have d0 : w7.cell? ⟨w.heap.size + 1, 0, none⟩ = some (.int .i64 0) := (hbr.cell (p := ⟨w.heap.size + 1, 0, none⟩) (by simp)).trans (by simp)
          have d1 : w7.cell? ⟨w.heap.size + 1, 1, none⟩ = some (.int .u64 0) := (hbr.cell (p := ⟨w.heap.size + 1, 1, none⟩) (by simp)).trans (by simp)
          have f0 : w7.frozen? ⟨w.heap.size + 1, 0, none⟩ = false := (hbr.frozen (p := ⟨w.heap.size + 1, 0, none⟩) (by simp)).trans (by simp)
          have f1 : w7.frozen? ⟨w.heap.size + 1, 1, none⟩ = false := (hbr.frozen (p := ⟨w.heap.size + 1, 1, none⟩) (by simp)).trans (by simp)
          have hz1 : w.heap.size + 1 < w7.heap.size := by have := hbr.size; simp at this; omega
          have hz0 : w.heap.size < w7.heap.size := by omega
          go_wp2_with fail
          refine (A6.out _).mono ?_
          rintro e w8 ⟨rfl, hb8⟩
          have hbr := hbr.trans (hb8.mono (Nat.le_trans (by simp) hbr.size))
          clear c0 c1 d0 d1 f0 f1 hz1 hz0
          have c0 : w8.cell? ⟨w.heap.size, 0, none⟩ = some (.int .i64 t) := (hbr.cell (p := ⟨w.heap.size, 0, none⟩) (by simp)).trans (by simp)
          have c1 : w8.cell? ⟨w.heap.size, 1, none⟩ = some (.int .u64 b) := (hbr.cell (p := ⟨w.heap.size, 1, none⟩) (by simp)).trans (by simp)
          have d0 : w8.cell? ⟨w.heap.size + 1, 0, none⟩ = some (.int .i64 0) := (hbr.cell (p := ⟨w.heap.size + 1, 0, none⟩) (by simp)).trans (by simp)
          have d1 : w8.cell? ⟨w.heap.size + 1, 1, none⟩ = some (.int .u64 0) := (hbr.cell (p := ⟨w.heap.size + 1, 1, none⟩) (by simp)).trans (by simp)
          have f0 : w8.frozen? ⟨w.heap.size + 1, 0, none⟩ = false := (hbr.frozen (p := ⟨w.heap.size + 1, 0, none⟩) (by simp)).trans (by simp)
          have f1 : w8.frozen? ⟨w.heap.size + 1, 1, none⟩ = false := (hbr.frozen (p := ⟨w.heap.size + 1, 1, none⟩) (by simp)).trans (by simp)
          have hz1 : w.heap.size + 1 < w8.heap.size := by have := hbr.size; simp at this; omega
          have hz0 : w.heap.size < w8.heap.size := by omega
          go_wp2_with fail
          have rr := two_cells d0 d1 hz1 (.int .i64 t2) (.int .u64 b2) (.cells #[.int .i64 t2, .int .u64 b2] 24)
          go_region
          all_goals go_wp2_with fail
          all_goals (refine bodyPost_ret (v := .tuple #[.string (mk Q), .agg #[.int .i64 t2, .int .u64 b2], .int .i64 0]) ?_ rfl ⟨rfl, ?_⟩)
          rotate_left
          · exact ((((HW.out.trans (hbr.mono (by omega))).setCell (p := ⟨w.heap.size + 1, 0, none⟩) (by simp) _).setCell (p := ⟨w.heap.size + 1, 1, none⟩) (by simp) _).alloc (by simp [World.setCell]; omega) _).drew
          all_goals simp [results, Try.results16, go_sem, rr.1, rr.2]
      · rw [if_pos hin] at hv
        rw [hv]; clear hv
        have A7 := Lib.hid (fun w => inside_any node n w)
        have hne : fr = node → ¬ (max 0 (min node 250) = fr ∧ max 0 (min n 1099511627776) = n) := by
          intro hf ⟨k1, k2⟩
          exact hin ⟨hf, ⟨by omega, by omega⟩⟩
        generalize max 0 (min node 250) = x1 at *
        generalize max 0 (min n 1099511627776) = x2 at *
        have hcond : ((!(x1 == fr && x2 == n)) || (fr != node)) = true := by
          by_cases hf : fr = node
          · have := hne hf
            cases hz : (x1 == fr && x2 == n) with
            | false => rfl
            | true => simp only [Bool.and_eq_true, beq_iff_eq] at hz; exact absurd hz this
          · simp [hf]
        have HNE := Lib.hid hne
        clear hne hin hcond
        go_enter Try.func16, Try.ntmps16
        go_wp2_with fail
        refine (A0.out _).mono ?_
        rintro e w1 ⟨rfl, hb1⟩
        go_wp2_with fail
        refine (A1.out _).mono ?_
        rintro e w2 ⟨rfl, hr2, hb2, hs2⟩
        go_wp2_with fail
        refine (A2.out _ _ hr2).mono ?_
        rintro e w3 ⟨rfl, hr3, ht3⟩
        go_wp2_with fail
        refine (A3.out _ _ hr3).mono ?_
        rintro e w4 ⟨rfl, hr4, ht4⟩
        go_wp2_with fail
        refine (A4.out _ _ hr4).mono ?_
        rintro e w5 ⟨rfl, hr5, ht5⟩
        go_wp2_with fail
        refine (A5.out _ _ hr5).mono ?_
        rintro e w6 ⟨rfl, rfl⟩
        have hbr : Below (w.heap.size + 2) ((w.alloc (.cells #[.int .i64 t, .int .u64 b] 24)).alloc (.cells #[.int .i64 0, .int .u64 0] 24)) w5 := ((hb1.mono (by simp)).trans (hb2.mono (Nat.le_trans (by simp) hb1.size))).trans (((ht3.trans ht4).trans ht5).below (Nat.le_trans (by simp) hb1.size) (Nat.le_trans (Nat.le_trans (by simp) hb1.size) hb2.size))
        go_wp2_with fail
        refine (A7.out _).mono ?_
        rintro e w7 ⟨rfl, hb7⟩
        have hbr := hbr.trans (hb7.mono (Nat.le_trans (by simp) hbr.size))
        have c0 : w7.cell? ⟨w.heap.size, 0, none⟩ = some (.int .i64 t) := (hbr.cell (p := ⟨w.heap.size, 0, none⟩) (by simp)).trans (by simp)
        have c1 : w7.cell? ⟨w.heap.size, 1, none⟩ = some (.int .u64 b) := (hbr.cell (p := ⟨w.heap.size, 1, none⟩) (by simp)).trans (by simp)
        have d0 : w7.cell? ⟨w.heap.size + 1, 0, none⟩ = some (.int .i64 0) := (hbr.cell (p := ⟨w.heap.size + 1, 0, none⟩) (by simp)).trans (by simp)
        have d1 : w7.cell? ⟨w.heap.size + 1, 1, none⟩ = some (.int .u64 0) := (hbr.cell (p := ⟨w.heap.size + 1, 1, none⟩) (by simp)).trans (by simp)
        have f0 : w7.frozen? ⟨w.heap.size + 1, 0, none⟩ = false := (hbr.frozen (p := ⟨w.heap.size + 1, 0, none⟩) (by simp)).trans (by simp)
        have f1 : w7.frozen? ⟨w.heap.size + 1, 1, none⟩ = false := (hbr.frozen (p := ⟨w.heap.size + 1, 1, none⟩) (by simp)).trans (by simp)
        have hz1 : w.heap.size + 1 < w7.heap.size := by have := hbr.size; simp at this; omega
        have hz0 : w.heap.size < w7.heap.size := by omega
        go_wp2_with fail
        rotate_left
        · exfalso
          have hx1 : x1 = fr ∧ x2 = n := by assumption
          have hx2 : (fr != node) = false := by assumption
          simp only [bne_eq_false_iff_eq] at hx2
          exact HNE.out hx2 hx1
        all_goals go_region
        all_goals go_wp2_with fail
        all_goals (refine bodyPost_ret (v := .tuple #[.string { data := #[] }, .agg #[.int .i64 t, .int .u64 b], .int .i64 2]) ?_ rfl ⟨rfl, ?_⟩)
        rotate_left
        any_goals exact (((HW.out.trans (hbr.mono (by omega))).setCell (p := ⟨w.heap.size + 1, 0, none⟩) (by simp) _).setCell (p := ⟨w.heap.size + 1, 1, none⟩) (by simp) _).drew
        all_goals simp [results, Try.results16, go_sem, d0, d1]
    · rw [if_pos hE2] at hv
      rw [hv]; clear hv
      have hE2b : (E2 != 0) = true := by simpa using hE2
      clear hE2
      go_enter Try.func16, Try.ntmps16
      go_wp2_with fail
      refine (A0.out _).mono ?_
      rintro e w1 ⟨rfl, hb1⟩
      go_wp2_with fail
      refine (A1.out _).mono ?_
      rintro e w2 ⟨rfl, hr2, hb2, hs2⟩
      go_wp2_with fail
      refine (A2.out _ _ hr2).mono ?_
      rintro e w3 ⟨rfl, hr3, ht3⟩
      go_wp2_with fail
      refine (A3.out _ _ hr3).mono ?_
      rintro e w4 ⟨rfl, hr4, ht4⟩
      go_wp2_with fail
      refine (A4.out _ _ hr4).mono ?_
      rintro e w5 ⟨rfl, hr5, ht5⟩
      go_wp2_with fail
      refine (A5.out _ _ hr5).mono ?_
      rintro e w6 ⟨rfl, rfl⟩
      have hbr : Below (w.heap.size + 2) ((w.alloc (.cells #[.int .i64 t, .int .u64 b] 24)).alloc (.cells #[.int .i64 0, .int .u64 0] 24)) w5 := ((hb1.mono (by simp)).trans (hb2.mono (Nat.le_trans (by simp) hb1.size))).trans (((ht3.trans ht4).trans ht5).below (Nat.le_trans (by simp) hb1.size) (Nat.le_trans (Nat.le_trans (by simp) hb1.size) hb2.size))
      have c0 : w5.cell? ⟨w.heap.size, 0, none⟩ = some (.int .i64 t) := (hbr.cell (p := ⟨w.heap.size, 0, none⟩) (by simp)).trans (by simp)
      have c1 : w5.cell? ⟨w.heap.size, 1, none⟩ = some (.int .u64 b) := (hbr.cell (p := ⟨w.heap.size, 1, none⟩) (by simp)).trans (by simp)
      have d0 : w5.cell? ⟨w.heap.size + 1, 0, none⟩ = some (.int .i64 0) := (hbr.cell (p := ⟨w.heap.size + 1, 0, none⟩) (by simp)).trans (by simp)
      have d1 : w5.cell? ⟨w.heap.size + 1, 1, none⟩ = some (.int .u64 0) := (hbr.cell (p := ⟨w.heap.size + 1, 1, none⟩) (by simp)).trans (by simp)
      have f0 : w5.frozen? ⟨w.heap.size + 1, 0, none⟩ = false := (hbr.frozen (p := ⟨w.heap.size + 1, 0, none⟩) (by simp)).trans (by simp)
      have f1 : w5.frozen? ⟨w.heap.size + 1, 1, none⟩ = false := (hbr.frozen (p := ⟨w.heap.size + 1, 1, none⟩) (by simp)).trans (by simp)
      have hz1 : w.heap.size + 1 < w5.heap.size := by have := hbr.size; simp at this; omega
      have hz0 : w.heap.size < w5.heap.size := by omega
      go_wp2_with fail
      go_region
      all_goals go_wp2_with fail
      all_goals (refine bodyPost_ret (v := .tuple #[.string { data := #[] }, .agg #[.int .i64 t, .int .u64 b], .int .i64 E2]) ?_ rfl ⟨rfl, ?_⟩)
      rotate_left
      · exact (((HW.out.trans (hbr.mono (by omega))).setCell (p := ⟨w.heap.size + 1, 0, none⟩) (by simp) _).setCell (p := ⟨w.heap.size + 1, 1, none⟩) (by simp) _).drew
      all_goals simp [results, Try.results16, go_sem, d0, d1]
  · rw [if_pos hE] at hv
    rw [hv]; clear hv
    have hEb : (E != 0) = true := by simpa using hE
    clear hE
    go_enter Try.func16, Try.ntmps16
    go_wp2_with fail
    refine (A0.out _).mono ?_
    rintro e w1 ⟨rfl, hb1⟩
    have hbr := hb1.mono (B' := w.heap.size + 2) (by simp)
    have c0 : w1.cell? ⟨w.heap.size, 0, none⟩ = some (.int .i64 t) := (hbr.cell (p := ⟨w.heap.size, 0, none⟩) (by simp)).trans (by simp)
    have c1 : w1.cell? ⟨w.heap.size, 1, none⟩ = some (.int .u64 b) := (hbr.cell (p := ⟨w.heap.size, 1, none⟩) (by simp)).trans (by simp)
    have d0 : w1.cell? ⟨w.heap.size + 1, 0, none⟩ = some (.int .i64 0) := (hbr.cell (p := ⟨w.heap.size + 1, 0, none⟩) (by simp)).trans (by simp)
    have d1 : w1.cell? ⟨w.heap.size + 1, 1, none⟩ = some (.int .u64 0) := (hbr.cell (p := ⟨w.heap.size + 1, 1, none⟩) (by simp)).trans (by simp)
    have f0 : w1.frozen? ⟨w.heap.size + 1, 0, none⟩ = false := (hbr.frozen (p := ⟨w.heap.size + 1, 0, none⟩) (by simp)).trans (by simp)
    have f1 : w1.frozen? ⟨w.heap.size + 1, 1, none⟩ = false := (hbr.frozen (p := ⟨w.heap.size + 1, 1, none⟩) (by simp)).trans (by simp)
    have hz1 : w.heap.size + 1 < w1.heap.size := by have := hbr.size; simp at this; omega
    have hz0 : w.heap.size < w1.heap.size := by omega
    go_wp2_with fail
    go_region
    all_goals go_wp2_with fail
    all_goals (refine bodyPost_ret (v := .tuple #[.string { data := #[] }, .agg #[.int .i64 t, .int .u64 b], .int .i64 E]) ?_ rfl ⟨rfl, ?_⟩)
    rotate_left
    · exact (((HW.out.trans (hbr.mono (by omega))).setCell (p := ⟨w.heap.size + 1, 0, none⟩) (by simp) _).setCell (p := ⟨w.heap.size + 1, 1, none⟩) (by simp) _).drew
    all_goals simp [results, Try.results16, go_sem, d0, d1]

set_option maxRecDepth 20000 in
set_option maxHeartbeats 8000000 in
theorem xOpen_any (key node t b : Int) (s : ByteArray) (w : World) (hk0 : 0 ≤ key) (hk1 : key ≤ 18446744073709551615) (h0 : 0 ≤ b) (h1 : b ≤ 18446744073709551615) (hs : s.size ≤ 1099511627760) :
    Calls Try.prog 17 #[.int .u64 key, .int .i64 node, .agg #[.int .i64 t, .int .u64 b], .string s] w fun e w' => e = .returned (.tuple #[.string (mk (openR key.toNat node t b (bl s)).1), .agg #[.int .i64 (openR key.toNat node t b (bl s)).2.1.1, .int .u64 (openR key.toNat node t b (bl s)).2.1.2], .int .i64 (openR key.toNat node t b (bl s)).2.2]) ∧ Below w.heap.size w w' := by
  have HW := Lib.hid (((Below.refl w.heap.size w).alloc (Nat.le_refl _) (.cells #[.int .i64 t, .int .u64 b] 24)).alloc (by simp) (.cells #[.int .i64 0, .int .u64 0] 24))
  have hplen := openD_len key.toNat (bl s)
  rw [size_bl] at hplen
  have A0 := Lib.hid (fun w => refOpen_any key s w hk0 hk1 hs)
  obtain ⟨O, hv⟩ : ∃ O, O = openR key.toNat node t b (bl s) := ⟨_, rfl⟩
  rw [← hv]
  unfold openR rd3 rd2 rd1 at hv
  generalize (openD key.toNat (bl s)).2 = E at *
  generalize (openD key.toNat (bl s)).1 = P at *
  have A1 := Lib.hid (fun w => xNew_any (mk P) w (by rw [size_mk]; omega))
  rw [bl_mk] at A1
  have A2 := Lib.hid (fun B w h => xInt_any B (mk P) ⟨P, 0⟩ w h)
  generalize (rInt ⟨P, 0⟩).1 = fr at *
  generalize (rInt ⟨P, 0⟩).2 = r1 at *
  have A3 := Lib.hid (fun B w h => xInt_any B (mk P) r1 w h)
  generalize (rInt r1).1 = n at *
  generalize (rInt r1).2 = r2 at *
  have A4 := Lib.hid (fun B w h => xText_any B (mk P) r2 1000 w h)
  generalize (rText 1000 r2).1 = Q at *
  generalize (rText 1000 r2).2 = r3 at *
  have A5 := Lib.hid (fun B w h => xEnd_any B (mk P) r3 w h)
  generalize rEnd r3 = E2 at *
  have A6 := Lib.hid (fun w => xAcc_any t b n w h0 h1)
  generalize (acc t b n).1 = t2 at *
  generalize (acc t b n).2.1 = b2 at *
  generalize (acc t b n).2.2 = ok at *
  clear hk1 h1 hplen hs
  generalize mk P = PB at *
  by_cases hE : E = 0
  · rw [if_neg (by omega)] at hv
    have hEb : (E != 0) = false := by simpa using hE
    clear hE
    by_cases hE2 : E2 = 0
    · rw [if_neg (by omega)] at hv
      have hE2b : (E2 != 0) = false := by simpa using hE2
      clear hE2
      by_cases hin : fr = node ∧ inRng node n
      · rw [if_neg (by simpa using hin)] at hv
        obtain ⟨hfr, ⟨g1, g2⟩, g3, g4⟩ := hin
        subst hfr
        cases ok with
        | false =>
          rw [if_pos rfl] at hv
          rw [hv]; clear hv
          go_enter Try.func17, Try.ntmps17
          go_wp2_with fail
          refine (A0.out _).mono ?_
          rintro e w1 ⟨rfl, hb1⟩
          go_wp2_with fail
          refine (A1.out _).mono ?_
          rintro e w2 ⟨rfl, hr2, hb2, hs2⟩
          go_wp2_with fail
          refine (A2.out _ _ hr2).mono ?_
          rintro e w3 ⟨rfl, hr3, ht3⟩
          go_wp2_with fail
          refine (A3.out _ _ hr3).mono ?_
          rintro e w4 ⟨rfl, hr4, ht4⟩
          go_wp2_with fail
          refine (A4.out _ _ hr4).mono ?_
          rintro e w5 ⟨rfl, hr5, ht5⟩
          go_wp2_with fail
          refine (A5.out _ _ hr5).mono ?_
          rintro e w6 ⟨rfl, n6, hw6⟩
          have hr6 : RdR w1.heap.size PB r3 w6 := by rw [hw6]; exact hr5.drewN n6
          have hbr : Below (w.heap.size + 2) ((w.alloc (.cells #[.int .i64 t, .int .u64 b] 24)).alloc (.cells #[.int .i64 0, .int .u64 0] 24)) w6 := by rw [hw6]; exact below_drewN (((hb1.mono (by simp)).trans (hb2.mono (Nat.le_trans (by simp) hb1.size))).trans (((ht3.trans ht4).trans ht5).below (Nat.le_trans (by simp) hb1.size) (Nat.le_trans (Nat.le_trans (by simp) hb1.size) hb2.size))) n6
          clear hw6
          have c0 : w6.cell? ⟨w.heap.size, 0, none⟩ = some (.int .i64 t) := (hbr.cell (p := ⟨w.heap.size, 0, none⟩) (by simp)).trans (by simp)
          have c1 : w6.cell? ⟨w.heap.size, 1, none⟩ = some (.int .u64 b) := (hbr.cell (p := ⟨w.heap.size, 1, none⟩) (by simp)).trans (by simp)
          have d0 : w6.cell? ⟨w.heap.size + 1, 0, none⟩ = some (.int .i64 0) := (hbr.cell (p := ⟨w.heap.size + 1, 0, none⟩) (by simp)).trans (by simp)
          have d1 : w6.cell? ⟨w.heap.size + 1, 1, none⟩ = some (.int .u64 0) := (hbr.cell (p := ⟨w.heap.size + 1, 1, none⟩) (by simp)).trans (by simp)
          have f0 : w6.frozen? ⟨w.heap.size + 1, 0, none⟩ = false := (hbr.frozen (p := ⟨w.heap.size + 1, 0, none⟩) (by simp)).trans (by simp)
          have f1 : w6.frozen? ⟨w.heap.size + 1, 1, none⟩ = false := (hbr.frozen (p := ⟨w.heap.size + 1, 1, none⟩) (by simp)).trans (by simp)
          have hz1 : w.heap.size + 1 < w6.heap.size := by have := hbr.size; simp at this; omega
          have hz0 : w.heap.size < w6.heap.size := by omega
          go_wp2_with fail
          refine (A6.out _).mono ?_
          rintro e w8 ⟨rfl, hb8⟩
          have hbr := hbr.trans (hb8.mono (Nat.le_trans (by simp) hbr.size))
          clear c0 c1 d0 d1 f0 f1 hz1 hz0
          have c0 : w8.cell? ⟨w.heap.size, 0, none⟩ = some (.int .i64 t) := (hbr.cell (p := ⟨w.heap.size, 0, none⟩) (by simp)).trans (by simp)
          have c1 : w8.cell? ⟨w.heap.size, 1, none⟩ = some (.int .u64 b) := (hbr.cell (p := ⟨w.heap.size, 1, none⟩) (by simp)).trans (by simp)
          have d0 : w8.cell? ⟨w.heap.size + 1, 0, none⟩ = some (.int .i64 0) := (hbr.cell (p := ⟨w.heap.size + 1, 0, none⟩) (by simp)).trans (by simp)
          have d1 : w8.cell? ⟨w.heap.size + 1, 1, none⟩ = some (.int .u64 0) := (hbr.cell (p := ⟨w.heap.size + 1, 1, none⟩) (by simp)).trans (by simp)
          have f0 : w8.frozen? ⟨w.heap.size + 1, 0, none⟩ = false := (hbr.frozen (p := ⟨w.heap.size + 1, 0, none⟩) (by simp)).trans (by simp)
          have f1 : w8.frozen? ⟨w.heap.size + 1, 1, none⟩ = false := (hbr.frozen (p := ⟨w.heap.size + 1, 1, none⟩) (by simp)).trans (by simp)
          have hz1 : w.heap.size + 1 < w8.heap.size := by have := hbr.size; simp at this; omega
          have hz0 : w.heap.size < w8.heap.size := by omega
          go_wp2_with fail
          have rr := two_cells d0 d1 hz1 (.int .i64 t) (.int .u64 b) (.cells #[.int .i64 t2, .int .u64 b2] 24)
          go_region
          all_goals go_wp2_with fail
          all_goals (refine bodyPost_ret (v := .tuple #[.string { data := #[] }, .agg #[.int .i64 t, .int .u64 b], .int .i64 18]) ?_ rfl ⟨rfl, ?_⟩)
          rotate_left
          · exact ((((HW.out.trans (hbr.mono (by omega))).setCell (p := ⟨w.heap.size + 1, 0, none⟩) (by simp) _).setCell (p := ⟨w.heap.size + 1, 1, none⟩) (by simp) _).alloc (by simp [World.setCell]; omega) _).drew
          all_goals simp [results, Try.results17, go_sem, rr.1, rr.2]
        | true =>
          rw [if_neg (by simp)] at hv
          rw [hv]; clear hv
          go_enter Try.func17, Try.ntmps17
          go_wp2_with fail
          refine (A0.out _).mono ?_
          rintro e w1 ⟨rfl, hb1⟩
          go_wp2_with fail
          refine (A1.out _).mono ?_
          rintro e w2 ⟨rfl, hr2, hb2, hs2⟩
          go_wp2_with fail
          refine (A2.out _ _ hr2).mono ?_
          rintro e w3 ⟨rfl, hr3, ht3⟩
          go_wp2_with fail
          refine (A3.out _ _ hr3).mono ?_
          rintro e w4 ⟨rfl, hr4, ht4⟩
          go_wp2_with fail
          refine (A4.out _ _ hr4).mono ?_
          rintro e w5 ⟨rfl, hr5, ht5⟩
          go_wp2_with fail
          refine (A5.out _ _ hr5).mono ?_
          rintro e w6 ⟨rfl, n6, hw6⟩
          have hr6 : RdR w1.heap.size PB r3 w6 := by rw [hw6]; exact hr5.drewN n6
          have hbr : Below (w.heap.size + 2) ((w.alloc (.cells #[.int .i64 t, .int .u64 b] 24)).alloc (.cells #[.int .i64 0, .int .u64 0] 24)) w6 := by rw [hw6]; exact below_drewN (((hb1.mono (by simp)).trans (hb2.mono (Nat.le_trans (by simp) hb1.size))).trans (((ht3.trans ht4).trans ht5).below (Nat.le_trans (by simp) hb1.size) (Nat.le_trans (Nat.le_trans (by simp) hb1.size) hb2.size))) n6
          clear hw6
          have c0 : w6.cell? ⟨w.heap.size, 0, none⟩ = some (.int .i64 t) := (hbr.cell (p := ⟨w.heap.size, 0, none⟩) (by simp)).trans (by simp)
          have c1 : w6.cell? ⟨w.heap.size, 1, none⟩ = some (.int .u64 b) := (hbr.cell (p := ⟨w.heap.size, 1, none⟩) (by simp)).trans (by simp)
          have d0 : w6.cell? ⟨w.heap.size + 1, 0, none⟩ = some (.int .i64 0) := (hbr.cell (p := ⟨w.heap.size + 1, 0, none⟩) (by simp)).trans (by simp)
          have d1 : w6.cell? ⟨w.heap.size + 1, 1, none⟩ = some (.int .u64 0) := (hbr.cell (p := ⟨w.heap.size + 1, 1, none⟩) (by simp)).trans (by simp)
          have f0 : w6.frozen? ⟨w.heap.size + 1, 0, none⟩ = false := (hbr.frozen (p := ⟨w.heap.size + 1, 0, none⟩) (by simp)).trans (by simp)
          have f1 : w6.frozen? ⟨w.heap.size + 1, 1, none⟩ = false := (hbr.frozen (p := ⟨w.heap.size + 1, 1, none⟩) (by simp)).trans (by simp)
          have hz1 : w.heap.size + 1 < w6.heap.size := by have := hbr.size; simp at this; omega
          have hz0 : w.heap.size < w6.heap.size := by omega
          go_wp2_with fail
          refine (A6.out _).mono ?_
          rintro e w8 ⟨rfl, hb8⟩
          have hbr := hbr.trans (hb8.mono (Nat.le_trans (by simp) hbr.size))
          clear c0 c1 d0 d1 f0 f1 hz1 hz0
          have c0 : w8.cell? ⟨w.heap.size, 0, none⟩ = some (.int .i64 t) := (hbr.cell (p := ⟨w.heap.size, 0, none⟩) (by simp)).trans (by simp)
          have c1 : w8.cell? ⟨w.heap.size, 1, none⟩ = some (.int .u64 b) := (hbr.cell (p := ⟨w.heap.size, 1, none⟩) (by simp)).trans (by simp)
          have d0 : w8.cell? ⟨w.heap.size + 1, 0, none⟩ = some (.int .i64 0) := (hbr.cell (p := ⟨w.heap.size + 1, 0, none⟩) (by simp)).trans (by simp)
          have d1 : w8.cell? ⟨w.heap.size + 1, 1, none⟩ = some (.int .u64 0) := (hbr.cell (p := ⟨w.heap.size + 1, 1, none⟩) (by simp)).trans (by simp)
          have f0 : w8.frozen? ⟨w.heap.size + 1, 0, none⟩ = false := (hbr.frozen (p := ⟨w.heap.size + 1, 0, none⟩) (by simp)).trans (by simp)
          have f1 : w8.frozen? ⟨w.heap.size + 1, 1, none⟩ = false := (hbr.frozen (p := ⟨w.heap.size + 1, 1, none⟩) (by simp)).trans (by simp)
          have hz1 : w.heap.size + 1 < w8.heap.size := by have := hbr.size; simp at this; omega
          have hz0 : w.heap.size < w8.heap.size := by omega
          go_wp2_with fail
          have rr := two_cells d0 d1 hz1 (.int .i64 t2) (.int .u64 b2) (.cells #[.int .i64 t2, .int .u64 b2] 24)
          go_region
          all_goals go_wp2_with fail
          all_goals (refine bodyPost_ret (v := .tuple #[.string (mk Q), .agg #[.int .i64 t2, .int .u64 b2], .int .i64 0]) ?_ rfl ⟨rfl, ?_⟩)
          rotate_left
          · exact ((((HW.out.trans (hbr.mono (by omega))).setCell (p := ⟨w.heap.size + 1, 0, none⟩) (by simp) _).setCell (p := ⟨w.heap.size + 1, 1, none⟩) (by simp) _).alloc (by simp [World.setCell]; omega) _).drew
          all_goals simp [results, Try.results17, go_sem, rr.1, rr.2]
      · rw [if_pos hin] at hv
        rw [hv]; clear hv
        have hin' : fr ≠ node ∨ fr < 0 ∨ 250 < fr ∨ n < 0 ∨ 1099511627776 < n := by unfold inRng at hin; omega
        clear hin
        go_enter Try.func17, Try.ntmps17
        go_wp2_with fail
        refine (A0.out _).mono ?_
        rintro e w1 ⟨rfl, hb1⟩
        go_wp2_with fail
        refine (A1.out _).mono ?_
        rintro e w2 ⟨rfl, hr2, hb2, hs2⟩
        go_wp2_with fail
        refine (A2.out _ _ hr2).mono ?_
        rintro e w3 ⟨rfl, hr3, ht3⟩
        go_wp2_with fail
        refine (A3.out _ _ hr3).mono ?_
        rintro e w4 ⟨rfl, hr4, ht4⟩
        go_wp2_with fail
        refine (A4.out _ _ hr4).mono ?_
        rintro e w5 ⟨rfl, hr5, ht5⟩
        go_wp2_with fail
        refine (A5.out _ _ hr5).mono ?_
        rintro e w6 ⟨rfl, n6, hw6⟩
        have hr6 : RdR w1.heap.size PB r3 w6 := by rw [hw6]; exact hr5.drewN n6
        have hbr : Below (w.heap.size + 2) ((w.alloc (.cells #[.int .i64 t, .int .u64 b] 24)).alloc (.cells #[.int .i64 0, .int .u64 0] 24)) w6 := by rw [hw6]; exact below_drewN (((hb1.mono (by simp)).trans (hb2.mono (Nat.le_trans (by simp) hb1.size))).trans (((ht3.trans ht4).trans ht5).below (Nat.le_trans (by simp) hb1.size) (Nat.le_trans (Nat.le_trans (by simp) hb1.size) hb2.size))) n6
        clear hw6
        have c0 : w6.cell? ⟨w.heap.size, 0, none⟩ = some (.int .i64 t) := (hbr.cell (p := ⟨w.heap.size, 0, none⟩) (by simp)).trans (by simp)
        have c1 : w6.cell? ⟨w.heap.size, 1, none⟩ = some (.int .u64 b) := (hbr.cell (p := ⟨w.heap.size, 1, none⟩) (by simp)).trans (by simp)
        have d0 : w6.cell? ⟨w.heap.size + 1, 0, none⟩ = some (.int .i64 0) := (hbr.cell (p := ⟨w.heap.size + 1, 0, none⟩) (by simp)).trans (by simp)
        have d1 : w6.cell? ⟨w.heap.size + 1, 1, none⟩ = some (.int .u64 0) := (hbr.cell (p := ⟨w.heap.size + 1, 1, none⟩) (by simp)).trans (by simp)
        have f0 : w6.frozen? ⟨w.heap.size + 1, 0, none⟩ = false := (hbr.frozen (p := ⟨w.heap.size + 1, 0, none⟩) (by simp)).trans (by simp)
        have f1 : w6.frozen? ⟨w.heap.size + 1, 1, none⟩ = false := (hbr.frozen (p := ⟨w.heap.size + 1, 1, none⟩) (by simp)).trans (by simp)
        have hz1 : w.heap.size + 1 < w6.heap.size := by have := hbr.size; simp at this; omega
        have hz0 : w.heap.size < w6.heap.size := by omega
        go_wp2_with fail
        all_goals go_region
        all_goals go_wp2_with fail
        all_goals (refine bodyPost_ret (v := .tuple #[.string { data := #[] }, .agg #[.int .i64 t, .int .u64 b], .int .i64 2]) ?_ rfl ⟨rfl, ?_⟩)
        rotate_left
        any_goals exact (((HW.out.trans (hbr.mono (by omega))).setCell (p := ⟨w.heap.size + 1, 0, none⟩) (by simp) _).setCell (p := ⟨w.heap.size + 1, 1, none⟩) (by simp) _).drew
        all_goals simp [results, Try.results17, go_sem, d0, d1]
    · rw [if_pos hE2] at hv
      rw [hv]; clear hv
      have hE2b : (E2 != 0) = true := by simpa using hE2
      clear hE2
      go_enter Try.func17, Try.ntmps17
      go_wp2_with fail
      refine (A0.out _).mono ?_
      rintro e w1 ⟨rfl, hb1⟩
      go_wp2_with fail
      refine (A1.out _).mono ?_
      rintro e w2 ⟨rfl, hr2, hb2, hs2⟩
      go_wp2_with fail
      refine (A2.out _ _ hr2).mono ?_
      rintro e w3 ⟨rfl, hr3, ht3⟩
      go_wp2_with fail
      refine (A3.out _ _ hr3).mono ?_
      rintro e w4 ⟨rfl, hr4, ht4⟩
      go_wp2_with fail
      refine (A4.out _ _ hr4).mono ?_
      rintro e w5 ⟨rfl, hr5, ht5⟩
      go_wp2_with fail
      refine (A5.out _ _ hr5).mono ?_
      rintro e w6 ⟨rfl, n6, hw6⟩
      have hr6 : RdR w1.heap.size PB r3 w6 := by rw [hw6]; exact hr5.drewN n6
      have hbr : Below (w.heap.size + 2) ((w.alloc (.cells #[.int .i64 t, .int .u64 b] 24)).alloc (.cells #[.int .i64 0, .int .u64 0] 24)) w6 := by rw [hw6]; exact below_drewN (((hb1.mono (by simp)).trans (hb2.mono (Nat.le_trans (by simp) hb1.size))).trans (((ht3.trans ht4).trans ht5).below (Nat.le_trans (by simp) hb1.size) (Nat.le_trans (Nat.le_trans (by simp) hb1.size) hb2.size))) n6
      clear hw6
      have c0 : w6.cell? ⟨w.heap.size, 0, none⟩ = some (.int .i64 t) := (hbr.cell (p := ⟨w.heap.size, 0, none⟩) (by simp)).trans (by simp)
      have c1 : w6.cell? ⟨w.heap.size, 1, none⟩ = some (.int .u64 b) := (hbr.cell (p := ⟨w.heap.size, 1, none⟩) (by simp)).trans (by simp)
      have d0 : w6.cell? ⟨w.heap.size + 1, 0, none⟩ = some (.int .i64 0) := (hbr.cell (p := ⟨w.heap.size + 1, 0, none⟩) (by simp)).trans (by simp)
      have d1 : w6.cell? ⟨w.heap.size + 1, 1, none⟩ = some (.int .u64 0) := (hbr.cell (p := ⟨w.heap.size + 1, 1, none⟩) (by simp)).trans (by simp)
      have f0 : w6.frozen? ⟨w.heap.size + 1, 0, none⟩ = false := (hbr.frozen (p := ⟨w.heap.size + 1, 0, none⟩) (by simp)).trans (by simp)
      have f1 : w6.frozen? ⟨w.heap.size + 1, 1, none⟩ = false := (hbr.frozen (p := ⟨w.heap.size + 1, 1, none⟩) (by simp)).trans (by simp)
      have hz1 : w.heap.size + 1 < w6.heap.size := by have := hbr.size; simp at this; omega
      have hz0 : w.heap.size < w6.heap.size := by omega
      go_wp2_with fail
      go_region_with (go_at_call 36; refine Calls.mono (A5.out w1.heap.size _ (by first | exact hr6 | trace_state)) ?_; rintro e w9 ⟨rfl, n9, rfl⟩)
      all_goals go_wp2_with fail
      all_goals (refine bodyPost_ret (v := .tuple #[.string { data := #[] }, .agg #[.int .i64 t, .int .u64 b], .int .i64 E2]) ?_ rfl ⟨rfl, ?_⟩)
      rotate_left
      any_goals exact ((below_drewN (HW.out.trans (hbr.mono (by omega))) _).setCell (p := ⟨w.heap.size + 1, 0, none⟩) (by simp) _).setCell (p := ⟨w.heap.size + 1, 1, none⟩) (by simp) _
      all_goals simp [results, Try.results17, go_sem, d0, d1]
  · rw [if_pos hE] at hv
    rw [hv]; clear hv
    have hEb : (E != 0) = true := by simpa using hE
    clear hE
    go_enter Try.func17, Try.ntmps17
    go_wp2_with fail
    refine (A0.out _).mono ?_
    rintro e w1 ⟨rfl, hb1⟩
    have hbr := hb1.mono (B' := w.heap.size + 2) (by simp)
    have c0 : w1.cell? ⟨w.heap.size, 0, none⟩ = some (.int .i64 t) := (hbr.cell (p := ⟨w.heap.size, 0, none⟩) (by simp)).trans (by simp)
    have c1 : w1.cell? ⟨w.heap.size, 1, none⟩ = some (.int .u64 b) := (hbr.cell (p := ⟨w.heap.size, 1, none⟩) (by simp)).trans (by simp)
    have d0 : w1.cell? ⟨w.heap.size + 1, 0, none⟩ = some (.int .i64 0) := (hbr.cell (p := ⟨w.heap.size + 1, 0, none⟩) (by simp)).trans (by simp)
    have d1 : w1.cell? ⟨w.heap.size + 1, 1, none⟩ = some (.int .u64 0) := (hbr.cell (p := ⟨w.heap.size + 1, 1, none⟩) (by simp)).trans (by simp)
    have f0 : w1.frozen? ⟨w.heap.size + 1, 0, none⟩ = false := (hbr.frozen (p := ⟨w.heap.size + 1, 0, none⟩) (by simp)).trans (by simp)
    have f1 : w1.frozen? ⟨w.heap.size + 1, 1, none⟩ = false := (hbr.frozen (p := ⟨w.heap.size + 1, 1, none⟩) (by simp)).trans (by simp)
    have hz1 : w.heap.size + 1 < w1.heap.size := by have := hbr.size; simp at this; omega
    have hz0 : w.heap.size < w1.heap.size := by omega
    go_wp2_with fail
    go_region
    all_goals go_wp2_with fail
    all_goals (refine bodyPost_ret (v := .tuple #[.string { data := #[] }, .agg #[.int .i64 t, .int .u64 b], .int .i64 E]) ?_ rfl ⟨rfl, ?_⟩)
    rotate_left
    · exact (((HW.out.trans (hbr.mono (by omega))).setCell (p := ⟨w.heap.size + 1, 0, none⟩) (by simp) _).setCell (p := ⟨w.heap.size + 1, 1, none⟩) (by simp) _).drew
    all_goals simp [results, Try.results17, go_sem, d0, d1]
end Go.Proofs.Ytegngjdeifbdiaa
