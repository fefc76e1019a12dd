/-
  The walk of the sixth law: a sealed text is opened as the same text, once, and by its node alone.
-/
import Derived.Test.YtegngjdeifbdiaaRepQ
import Derived.Test.YtegngjdeifbdiaaRepK
open Go Go.RowKit Go.Proofs
namespace Go.Proofs.Ytegngjdeifbdiaa
open Hub

set_option maxRecDepth 20000 in
set_option maxHeartbeats 8000000 in
theorem back_any (c : Cs) (x : Int × Int) (a : Int) (w : World) (hc : c.ok) (g0 : -9223372036854775808 ≤ x.1) (g1 : x.1 ≤ 9223372036854775807) (b0 : 0 ≤ x.2) (b1 : x.2 ≤ 18446744073709551615) (a0 : 0 ≤ a) (a1 : a ≤ 255) :
    Calls Try.prog 8 #[c.val, .agg #[.int .i64 x.1, .int .u64 x.2], .int .u8 a] w fun e w' => e = .returned (.bool true) ∧ Below w.heap.size w w' := by
  obtain ⟨key, node, n, s, oth⟩ := c
  obtain ⟨t, b⟩ := x
  obtain ⟨k0, k1, hs, ho⟩ := hc
  simp only [maxLen] at k0 k1 hs ho b0 b1 g0 g1 ⊢
  rw [Cs.val]
  have HW := Lib.hid awake_any
  by_cases hl : (1000 : Int) < (s.size : Int)
  · go_enter Try.func8, Try.ntmps8
    go_wp2_with fail
    refine (HW.out _).mono ?_
    rintro e w8 ⟨rfl, hb8⟩
    go_wp2_with fail
    go_ret
    exact ⟨rfl, bt (step_al (step_al (Below.refl _ _) _) _) hb8⟩
  · skip
    by_cases hn0 : node < 0
    · go_enter Try.func8, Try.ntmps8
      go_wp2_with fail
      refine (HW.out _).mono ?_
      rintro e w8 ⟨rfl, hb8⟩
      go_wp2_with fail
      go_ret
      exact ⟨rfl, bt (step_al (step_al (Below.refl _ _) _) _) hb8⟩
    · skip
      by_cases hn1 : (250 : Int) < node
      · go_enter Try.func8, Try.ntmps8
        go_wp2_with fail
        refine (HW.out _).mono ?_
        rintro e w8 ⟨rfl, hb8⟩
        go_wp2_with fail
        go_ret
        exact ⟨rfl, bt (step_al (step_al (Below.refl _ _) _) _) hb8⟩
      · skip
        by_cases hm0 : n < 0
        · go_enter Try.func8, Try.ntmps8
          go_wp2_with fail
          refine (HW.out _).mono ?_
          rintro e w8 ⟨rfl, hb8⟩
          go_wp2_with fail
          go_ret
          exact ⟨rfl, bt (step_al (step_al (Below.refl _ _) _) _) hb8⟩
        · skip
          by_cases hm1 : (1099511627776 : Int) < n
          · go_enter Try.func8, Try.ntmps8
            go_wp2_with fail
            refine (HW.out _).mono ?_
            rintro e w8 ⟨rfl, hb8⟩
            go_wp2_with fail
            go_ret
            exact ⟨rfl, bt (step_al (step_al (Below.refl _ _) _) _) hb8⟩
          · skip
            have hr : inRng node n := ⟨⟨by omega, by omega⟩, by omega, by omega⟩
            have hsl : (bl s).length ≤ 1000 := by rw [size_bl]; omega
            have A1 := Lib.hid (fun w => wSeal_any key node n s w k0 k1 (by omega))
            rw [show sealR key.toNat node n (bl s) = (sealD key.toNat (msg node n (bl s)), 0) by rw [sealR, if_neg (by simpa using hr), if_neg (by omega)]] at A1
            have hK : (mk (sealD key.toNat (msg node n (bl s)))).size ≤ 1099511627760 := by
              have h1 := enc_length node (by omega) (by omega)
              have h2 := enc_length n (by omega) (by omega)
              have h3 := enc_length (bl s).length (by omega) (by omega)
              rw [size_mk]; simp only [sealD, sum4, msg, encT, List.length_append, List.length_cons, List.length_nil]; omega
            have A2 := Lib.hid (fun w => xAcc_any t b n w b0 b1)
            have O1 := Lib.hid (fun w => wOpen_any key node t b (mk (sealD key.toNat (msg node n (bl s)))) w k0 k1 b0 b1 hK)
            rw [bl_mk, open_msg key.toNat node n node t b (bl s) hr hsl, if_neg (by simpa using hr)] at O1
            have hb' := acc_b (t := t) (b := b) (n := n) b0 b1
            have hrn := rej_new (t := t) (b := b) (n := n)
            have O2 := Lib.hid (fun w => wOpen_any key node (acc t b n).1 (acc t b n).2.1 (mk (sealD key.toNat (msg node n (bl s)))) w k0 k1 hb'.1 hb'.2 hK)
            rw [bl_mk, open_msg key.toNat node n node (acc t b n).1 (acc t b n).2.1 (bl s) hr hsl, if_neg (by simpa using hr)] at O2
            have O3 := Lib.hid (fun (h : ¬ node = a % 251) w => by
              have := wOpen_any key (a % 251) t b (mk (sealD key.toNat (msg node n (bl s)))) w k0 k1 b0 b1 hK
              rw [bl_mk, open_msg key.toNat node n (a % 251) t b (bl s) hr hsl, if_pos (fun h2 => h h2.1)] at this
              exact this)
            simp only at A1 O3
            rw [show mk [] = ({ data := #[] } : ByteArray) from rfl] at O3
            generalize mk (sealD key.toNat (msg node n (bl s))) = K at *
            obtain ⟨t1, b1', ok, hacc⟩ : ∃ t1 b1' ok, acc t b n = (t1, b1', ok) := ⟨_, _, _, rfl⟩
            rw [hacc] at A2 O1 O2 hb' hrn
            simp only at A2 O1 O2 hb' hrn
            have hi0 : ¬ node < 0 := hn0
            cases ok with
            | false =>
              rw [if_pos rfl] at O1
              simp only at O1
              rw [show mk [] = ({ data := #[] } : ByteArray) from rfl] at O1
              clear O2 O3 hrn hb' hacc
              go_enter Try.func8, Try.ntmps8
              go_wp2_with fail
              refine (A1.out _).mono ?_
              rintro e w1 ⟨rfl, hb1⟩
              have B1 := bt (step_al (step_al (Below.refl _ w) _) _) hb1
              have k1 := (((Kp.nil (X := w)).five _ _ _ _ _ _).two _ _ _).below hb1
              have f0 := k1.hd
              have f1 := k1.tl.hd
              have f2 := k1.tl.tl.hd
              have f3 := k1.tl.tl.tl.hd
              have f4 := k1.tl.tl.tl.tl.hd
              have f5 := k1.tl.tl.tl.tl.tl.hd
              have f6 := k1.tl.tl.tl.tl.tl.tl.hd
              have zf0 := k1.lt
              have zf1 := k1.tl.tl.lt
              simp only [World.size_alloc] at f0 f1 zf0
              have K1 := Lib.hid k1
              clear k1 hb1
              go_wp2_with fail
              refine (A2.out _).mono ?_
              rintro e w2 ⟨rfl, hb2⟩
              have B2 := bt B1 hb2
              have k2 := K1.out.below hb2
              have h0 := k2.hd
              have h1 := k2.tl.hd
              have h2 := k2.tl.tl.hd
              have h3 := k2.tl.tl.tl.hd
              have h4 := k2.tl.tl.tl.tl.hd
              have h5 := k2.tl.tl.tl.tl.tl.hd
              have h6 := k2.tl.tl.tl.tl.tl.tl.hd
              have zh0 := k2.lt
              have zh1 := k2.tl.tl.lt
              simp only [World.size_alloc] at h0 h1 zh0
              have K2 := Lib.hid k2
              clear k2 hb2 f0 f1 f2 f3 f4 f5 f6 zf0 zf1
              go_wp2_with fail
              refine (O1.out _).mono ?_
              rintro e w3 ⟨rfl, hb3⟩
              have B3 := bt (step_al B2 _) hb3
              have k3 := (K2.out.alloc _).below hb3
              have i0 := k3.hd
              have i1 := k3.tl.hd
              have i2 := k3.tl.tl.hd
              have i3 := k3.tl.tl.tl.hd
              have i4 := k3.tl.tl.tl.tl.hd
              have i5 := k3.tl.tl.tl.tl.tl.hd
              have i6 := k3.tl.tl.tl.tl.tl.tl.hd
              have zi0 := k3.lt
              have zi1 := k3.tl.tl.lt
              simp only [World.size_alloc] at i0 i1 zi0
              have K3 := Lib.hid k3
              clear k3 hb3 h0 h1 h2 h3 h4 h5 h6 zh0 zh1
              go_wp2_with fail
              refine (HW.out _).mono ?_
              rintro e w8 ⟨rfl, hb8⟩
              go_wp2_with fail
              go_ret
              exact ⟨rfl, bt (step_al B3 _) hb8⟩
            | true =>
              have hrj := rej_acc (hrn rfl)
              rw [if_neg (by simp)] at O1
              rw [hrj, if_pos rfl] at O2
              simp only [mk_bl] at O1 O2
              rw [show mk [] = ({ data := #[] } : ByteArray) from rfl] at O2
              clear hrn hrj hb' hacc
              by_cases hne : node = a % 251
              · have hnb : (a % 251 == node) = true := by simpa using hne.symm
                have hnb2 : (a.tmod 251 == node) = true := by rw [Int.tmod_eq_emod_of_nonneg a0]; exact hnb
                clear O3 hne
                go_enter Try.func8, Try.ntmps8
                go_wp2_with fail
                refine (A1.out _).mono ?_
                rintro e w1 ⟨rfl, hb1⟩
                have B1 := bt (step_al (step_al (Below.refl _ w) _) _) hb1
                have k1 := (((Kp.nil (X := w)).five _ _ _ _ _ _).two _ _ _).below hb1
                have f0 := k1.hd
                have f1 := k1.tl.hd
                have f2 := k1.tl.tl.hd
                have f3 := k1.tl.tl.tl.hd
                have f4 := k1.tl.tl.tl.tl.hd
                have f5 := k1.tl.tl.tl.tl.tl.hd
                have f6 := k1.tl.tl.tl.tl.tl.tl.hd
                have zf0 := k1.lt
                have zf1 := k1.tl.tl.lt
                simp only [World.size_alloc] at f0 f1 zf0
                have K1 := Lib.hid k1
                clear k1 hb1
                go_wp2_with fail
                refine (A2.out _).mono ?_
                rintro e w2 ⟨rfl, hb2⟩
                have B2 := bt B1 hb2
                have k2 := K1.out.below hb2
                have h0 := k2.hd
                have h1 := k2.tl.hd
                have h2 := k2.tl.tl.hd
                have h3 := k2.tl.tl.tl.hd
                have h4 := k2.tl.tl.tl.tl.hd
                have h5 := k2.tl.tl.tl.tl.tl.hd
                have h6 := k2.tl.tl.tl.tl.tl.tl.hd
                have zh0 := k2.lt
                have zh1 := k2.tl.tl.lt
                simp only [World.size_alloc] at h0 h1 zh0
                have K2 := Lib.hid k2
                clear k2 hb2 f0 f1 f2 f3 f4 f5 f6 zf0 zf1
                go_wp2_with fail
                refine (O1.out _).mono ?_
                rintro e w3 ⟨rfl, hb3⟩
                have B3 := bt (step_al B2 _) hb3
                have k3 := (K2.out.alloc _).below hb3
                have i0 := k3.hd
                have i1 := k3.tl.hd
                have i2 := k3.tl.tl.hd
                have i3 := k3.tl.tl.tl.hd
                have i4 := k3.tl.tl.tl.tl.hd
                have i5 := k3.tl.tl.tl.tl.tl.hd
                have i6 := k3.tl.tl.tl.tl.tl.tl.hd
                have zi0 := k3.lt
                have zi1 := k3.tl.tl.lt
                simp only [World.size_alloc] at i0 i1 zi0
                have K3 := Lib.hid k3
                clear k3 hb3 h0 h1 h2 h3 h4 h5 h6 zh0 zh1
                go_wp2_with fail
                refine (O2.out _).mono ?_
                rintro e w4 ⟨rfl, hb4⟩
                have B4 := bt (step_al B3 _) hb4
                have k4 := (K3.out.two _ _ _).below hb4
                have j0 := k4.hd
                have j1 := k4.tl.hd
                have j2 := k4.tl.tl.hd
                have j3 := k4.tl.tl.tl.hd
                have j4 := k4.tl.tl.tl.tl.hd
                have j5 := k4.tl.tl.tl.tl.tl.hd
                have j6 := k4.tl.tl.tl.tl.tl.tl.hd
                have j7 := k4.tl.tl.tl.tl.tl.tl.tl.hd
                have j8 := k4.tl.tl.tl.tl.tl.tl.tl.tl.hd
                have zj0 := k4.lt
                have zj1 := k4.tl.tl.lt
                have zj2 := k4.tl.tl.tl.tl.lt
                simp only [World.size_alloc] at j2 j3 zj1
                have K4 := Lib.hid k4
                clear k4 hb4 i0 i1 i2 i3 i4 i5 i6 zi0 zi1
                go_wp2_with fail
                refine (HW.out _).mono ?_
                rintro e w8 ⟨rfl, hb8⟩
                go_wp2_with fail
                go_ret
                exact ⟨rfl, bt (step_al B4 _) hb8⟩
              · have hnb : (a % 251 == node) = false := by simpa using fun h => hne h.symm
                have hnb2 : (a.tmod 251 == node) = false := by rw [Int.tmod_eq_emod_of_nonneg a0]; exact hnb
                go_enter Try.func8, Try.ntmps8
                go_wp2_with fail
                refine (A1.out _).mono ?_
                rintro e w1 ⟨rfl, hb1⟩
                have B1 := bt (step_al (step_al (Below.refl _ w) _) _) hb1
                have k1 := (((Kp.nil (X := w)).five _ _ _ _ _ _).two _ _ _).below hb1
                have f0 := k1.hd
                have f1 := k1.tl.hd
                have f2 := k1.tl.tl.hd
                have f3 := k1.tl.tl.tl.hd
                have f4 := k1.tl.tl.tl.tl.hd
                have f5 := k1.tl.tl.tl.tl.tl.hd
                have f6 := k1.tl.tl.tl.tl.tl.tl.hd
                have zf0 := k1.lt
                have zf1 := k1.tl.tl.lt
                simp only [World.size_alloc] at f0 f1 zf0
                have K1 := Lib.hid k1
                clear k1 hb1
                go_wp2_with fail
                refine (A2.out _).mono ?_
                rintro e w2 ⟨rfl, hb2⟩
                have B2 := bt B1 hb2
                have k2 := K1.out.below hb2
                have h0 := k2.hd
                have h1 := k2.tl.hd
                have h2 := k2.tl.tl.hd
                have h3 := k2.tl.tl.tl.hd
                have h4 := k2.tl.tl.tl.tl.hd
                have h5 := k2.tl.tl.tl.tl.tl.hd
                have h6 := k2.tl.tl.tl.tl.tl.tl.hd
                have zh0 := k2.lt
                have zh1 := k2.tl.tl.lt
                simp only [World.size_alloc] at h0 h1 zh0
                have K2 := Lib.hid k2
                clear k2 hb2 f0 f1 f2 f3 f4 f5 f6 zf0 zf1
                go_wp2_with fail
                refine (O1.out _).mono ?_
                rintro e w3 ⟨rfl, hb3⟩
                have B3 := bt (step_al B2 _) hb3
                have k3 := (K2.out.alloc _).below hb3
                have i0 := k3.hd
                have i1 := k3.tl.hd
                have i2 := k3.tl.tl.hd
                have i3 := k3.tl.tl.tl.hd
                have i4 := k3.tl.tl.tl.tl.hd
                have i5 := k3.tl.tl.tl.tl.tl.hd
                have i6 := k3.tl.tl.tl.tl.tl.tl.hd
                have zi0 := k3.lt
                have zi1 := k3.tl.tl.lt
                simp only [World.size_alloc] at i0 i1 zi0
                have K3 := Lib.hid k3
                clear k3 hb3 h0 h1 h2 h3 h4 h5 h6 zh0 zh1
                go_wp2_with fail
                refine (O2.out _).mono ?_
                rintro e w4 ⟨rfl, hb4⟩
                have B4 := bt (step_al B3 _) hb4
                have k4 := (K3.out.two _ _ _).below hb4
                have j0 := k4.hd
                have j1 := k4.tl.hd
                have j2 := k4.tl.tl.hd
                have j3 := k4.tl.tl.tl.hd
                have j4 := k4.tl.tl.tl.tl.hd
                have j5 := k4.tl.tl.tl.tl.tl.hd
                have j6 := k4.tl.tl.tl.tl.tl.tl.hd
                have j7 := k4.tl.tl.tl.tl.tl.tl.tl.hd
                have j8 := k4.tl.tl.tl.tl.tl.tl.tl.tl.hd
                have zj0 := k4.lt
                have zj1 := k4.tl.tl.lt
                have zj2 := k4.tl.tl.tl.tl.lt
                simp only [World.size_alloc] at j2 j3 zj1
                have K4 := Lib.hid k4
                clear k4 hb4 i0 i1 i2 i3 i4 i5 i6 zi0 zi1
                go_wp2_with fail
                refine ((O3.out hne) _).mono ?_
                rintro e w5 ⟨rfl, hb5⟩
                have B5 := bt (step_al B4 _) hb5
                have k5 := (K4.out.alloc _).below hb5
                have q0 := k5.hd
                have q1 := k5.tl.hd
                have q2 := k5.tl.tl.hd
                have q3 := k5.tl.tl.tl.hd
                have q4 := k5.tl.tl.tl.tl.hd
                have q5 := k5.tl.tl.tl.tl.tl.hd
                have q6 := k5.tl.tl.tl.tl.tl.tl.hd
                have q7 := k5.tl.tl.tl.tl.tl.tl.tl.hd
                have q8 := k5.tl.tl.tl.tl.tl.tl.tl.tl.hd
                have zq0 := k5.lt
                have zq1 := k5.tl.tl.lt
                have zq2 := k5.tl.tl.tl.tl.lt
                simp only [World.size_alloc] at q2 q3 zq1
                clear k5 hb5 j0 j1 j2 j3 j4 j5 j6 j7 j8 zj0 zj1 zj2
                go_wp2_with fail
                refine (HW.out _).mono ?_
                rintro e w8 ⟨rfl, hb8⟩
                go_wp2_with fail
                go_ret
                exact ⟨rfl, bt (step_al B5 _) hb8⟩
end Go.Proofs.Ytegngjdeifbdiaa
