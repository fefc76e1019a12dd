/-
  The walk of the law about prefixes of a journal.
-/
import Derived.Test.YtnglepapodncbaaJouR
open Go Go.RowKit Go.Proofs
namespace Go.Proofs.Ytnglepapodncbaa
namespace Hub
theorem StrsAt.take {lo N : Nat} {w : World} {a : Option Addr} {n cap : Nat} {l : List ByteArray} (h : StrsAt lo N w (.slice a n cap) l) (W : Nat) (hW : W ≤ l.length) : StrsAt lo N w (.slice a W cap) (l.take W) := by
  obtain ⟨a', cap', e, hcap, hc⟩ := h
  simp only [Value.slice.injEq] at e
  obtain ⟨rfl, rfl, rfl⟩ := e
  have hl : (l.take W).length = W := by rw [List.length_take]; omega
  refine ⟨a, cap, by rw [hl], by omega, fun hne => ?_⟩
  obtain ⟨bk, off, rfl, hlo, hbN, hcell⟩ := hc (by intro e; rw [e] at hne; simp at hne)
  exact ⟨bk, off, rfl, hlo, hbN, fun i hi => by rw [hcell i (by omega)]; simp⟩
theorem mk_bls (l : List ByteArray) (W : Nat) : ((l.map bl).take W).map mk = l.take W := by
  rw [← List.map_take, List.map_map]
  conv => rhs; rw [← List.map_id (l.take W)]
  exact List.map_congr_left fun x _ => mk_bl x
end Hub
open Hub

set_option maxHeartbeats 2000000 in
theorem lawPrefix (g : Int) (v : Value) (l : List ByteArray) (cut : Int) (w : World) (h0 : -9223372036854775808 ≤ g) (h1 : g ≤ 9223372036854775807) (hv : StrsAt 0 w.heap.size w v l) (_hl : l.length ≤ maxLen) (_hx : ∀ x ∈ l, x.size ≤ maxLen) (h2 : -9223372036854775808 ≤ cut) (h3 : cut ≤ 9223372036854775807) :
    Calls Try.prog 4 #[.int .i64 g, v, .int .i64 cut] w fun e w' => e = .returned (.bool true) ∧ Below w.heap.size w w' := by
  have HV := Lib.hid (fun w' (k : Below w.heap.size w w') => hv.below k (Nat.le_refl _))
  have HV0 := Lib.hid hv
  obtain ⟨a, cap, rfl, hcap, -⟩ := hv
  have hcapi : (l.length : Int) ≤ (cap : Int) := by omega
  by_cases g1 : g < 1
  · clear _hl _hx
    go_enter Try.func4, Try.ntmps4
    go_wp2_with (refine (lives_any _).mono ?_; rintro e w1 ⟨rfl, hb⟩)
    go_ret
    exact ⟨rfl, hb⟩
  · by_cases g2 : 1099511627776 < g
    · clear _hl _hx
      go_enter Try.func4, Try.ntmps4
      go_wp2_with (refine (lives_any _).mono ?_; rintro e w1 ⟨rfl, hb⟩)
      go_ret
      exact ⟨rfl, hb⟩
    · by_cases g3 : 12 < l.length
      · have g3i : (12 : Int) < (l.length : Int) := by omega
        clear _hl _hx HV HV0
        generalize l.length = L at *
        go_enter Try.func4, Try.ntmps4
        go_wp2_with (refine (lives_any _).mono ?_; rintro e w1 ⟨rfl, hb⟩)
        go_ret
        exact ⟨rfl, hb⟩
      · have g3i : ¬ (12 : Int) < (l.length : Int) := by omega
        obtain ⟨n, hn⟩ : ∃ n, l.length = n := ⟨_, rfl⟩
        rw [hn] at hcapi g3i g3 hcap
        rw [hn]
        rw [hn] at HV HV0
        clear _hl _hx
        go_enter Try.func4, Try.ntmps4
        go_wp2_with fail
        go_loop [7] (fun i => ∃ k : Nat, k ≤ n ∧ i = .int .i64 k ∧ ∀ j (hj : j < l.length), j < k → l[j].size ≤ 5000) (fun i => n - (intOf i).toNat)
        case atStart => exact ⟨0, Nat.zero_le _, rfl, fun j _ h => by omega⟩
        case round =>
          obtain ⟨k, hk, rfl, hall⟩ := hrel
          by_cases hlt : k < n
          · have hkl : k < l.length := by omega
            obtain ⟨bk, off, rfl, hbk, hcl⟩ := HV0.out.get k hkl
            have HA := Lib.hid (fun (e : l[k].size ≤ 5000) j (hj : j < l.length) (hjk : j < k + 1) => (show l[j].size ≤ 5000 from by
              by_cases e2 : j = k
              · subst e2; exact e
              · exact hall j hj (by omega)))
            clear hall
            generalize l[k] = x at *
            by_cases hbig : 5000 < x.size
            · have hbi : (5000 : Int) < (x.size : Int) := by omega
              clear HA
              go_wp2_with (refine (lives_any _).mono ?_; rintro e w1 ⟨rfl, hb⟩)
              go_ret
              exact ⟨rfl, hb⟩
            · have hbi : ¬ (5000 : Int) < (x.size : Int) := by omega
              have hall2 := HA.out (by omega)
              clear HA
              go_wp2_with fail
              exact ⟨⟨k + 1, by omega, by go_num, hall2⟩, by simp [intOf]; omega⟩
          · obtain rfl : k = n := by omega
            have hs : ∀ x ∈ l, x.size ≤ 5000 := fun x hx => by
              obtain ⟨j, hj, rfl⟩ := List.getElem_of_mem hx
              exact hall j hj (by omega)
            have HB := Lib.hid (fun w' (b : Below w.heap.size w w') => build_any g _ l 0 w.heap.size w' (HV.out w' b) b.size (by omega) (by omega) (by omega) hs)
            obtain ⟨L, hL⟩ : ∃ L, L = l.map bl := ⟨_, rfl⟩
            rw [← hL] at HB
            have hLl : L.length = k := by rw [hL, List.length_map, hn]
            have hLs : ∀ p ∈ L, p.length ≤ 5000 := fun p hp => by
              rw [hL] at hp
              obtain ⟨x, hx, rfl⟩ := List.mem_map.1 hp
              rw [size_bl]; exact hs x hx
            have hsh : shortJ L := fun p hp => by have := hLs p hp; omega
            have hhl : (hdJ g).length ≤ 13 := by
              have := enc_length g (by omega) (by omega)
              rw [hdJ, List.length_append]; show 3 + _ ≤ 13; omega
            have hJl : (hdJ g ++ recsJ L 0).length ≤ 60200 := by
              have h2 := recsJ_size L hLs 0
              rw [List.length_append]; omega
            rw [hn] at HB
            clear hall
            have HE0 := Lib.hid (endJ_zero g L)
            have HPre := Lib.hid (fun (c W : Nat) hW hc0 hc1 hc2 => scanJ_pre (g := g) (l := L) (cut := c) (W := W) (by omega) (by omega) hsh (by omega) hW hc0 hc1 hc2)
            have HHd := Lib.hid (fun (c : Nat) hc => scanJ_head (g := g) (l := L) (cut := c) (by omega) (by omega) hc)
            have hJz : (mk (hdJ g ++ recsJ L 0)).size = (hdJ g ++ recsJ L 0).length := rfl
            have HSc := Lib.hid (fun (c : Nat) (hc : c ≤ (mk (hdJ g ++ recsJ L 0)).size) w => (show Calls Try.prog 16 #[.string ((mk (hdJ g ++ recsJ L 0)).extract 0 c)] w fun e w' => ∃ v, e = .returned (.tuple #[.int .i64 (scanJ ((hdJ g ++ recsJ L 0).take c)).1, v, .int .i64 (scanJ ((hdJ g ++ recsJ L 0).take c)).2.2.1, .int .i64 (scanJ ((hdJ g ++ recsJ L 0).take c)).2.2.2]) ∧ StrsAt w.heap.size w'.heap.size w' v ((scanJ ((hdJ g ++ recsJ L 0).take c)).2.1.map mk) ∧ Below w.heap.size w w' by
              have h := wScan_any ((mk (hdJ g ++ recsJ L 0)).extract 0 c) w (by rw [ByteArray.size_extract]; omega)
              rw [bl_take, bl_mk] at h
              exact h))
            have HMk := Lib.hid (fun W => mk_bls l W)
            rw [← hL] at HMk
            clear hL hLs hs hsh hhl
            have hJl2 : (mk (hdJ g ++ recsJ L 0)).size ≤ 60200 := by omega
            clear hJl
            rw [← hJz] at HPre
            clear hJz
            go_wp2_with fail
            refine (HB.out _ (Below.refl _ _)).mono ?_
            rintro e w1 ⟨u, rfl, hown, hb1⟩
            have hu := hown.ints
            have hel := endsJ_length g L k
            have HEl := Lib.hid hel
            have HEg := Lib.hid (endsJ_get g L k)
            obtain ⟨au, cu, rfl, hcu⟩ := id hu
            rw [hel] at hu ⊢
            have HU := Lib.hid hu
            clear hcu hown hel hu HB
            by_cases c0 : cut < 0
            · generalize mk (hdJ g ++ recsJ L 0) = J at *
              go_wp2_with (refine (lives_any _).mono ?_; rintro e w2 ⟨rfl, hb⟩)
              go_ret
              exact ⟨rfl, bt hb1 hb⟩
            · obtain ⟨c, rfl⟩ := Int.eq_ofNat_of_zero_le (show 0 ≤ cut by omega)
              by_cases c1 : (mk (hdJ g ++ recsJ L 0)).size < c
              · have c1i : ((mk (hdJ g ++ recsJ L 0)).size : Int) < (c : Int) := by omega
                clear HSc HPre
                generalize mk (hdJ g ++ recsJ L 0) = J at *
                go_wp2_with (refine (lives_any _).mono ?_; rintro e w2 ⟨rfl, hb⟩)
                go_ret
                exact ⟨rfl, bt hb1 hb⟩
              · have c1i : ¬ ((mk (hdJ g ++ recsJ L 0)).size : Int) < (c : Int) := by omega
                have HS := Lib.hid (HSc.out c (by omega))
                have HP := Lib.hid (fun W hW hc0 hc1 => HPre.out c W hW hc0 hc1 (by omega))
                have HH := Lib.hid (HHd.out c)
                clear HSc HPre HHd
                generalize scanJ ((hdJ g ++ recsJ L 0).take c) = S at *
                generalize mk (hdJ g ++ recsJ L 0) = J at *
                go_wp2_with fail
                refine (HS.out _).mono ?_
                rintro e w2 ⟨v2, rfl, hv2, hb2⟩
                have hu2 := HU.out.below hb2 (Nat.le_refl _)
                have hb12 := bt hb1 hb2
                obtain ⟨bu, ou, rfl, hbu, hc00⟩ := hu2.get 0 (by rw [HEl.out]; omega)
                have HCU := Lib.hid (fun m (hm : m < k + 1) => (show w2.cell? ⟨bu, ou + m, none⟩ = some (.int .i64 (endJ g L m : Int)) by
                  obtain ⟨b', o', e', _, hc'⟩ := hu2.get m (by rw [HEl.out]; exact hm)
                  simp only [Option.some.injEq, Addr.mk.injEq, and_true] at e'
                  obtain ⟨rfl, rfl⟩ := e'
                  rw [hc', HEg.out m _]))
                have hc01 := HCU.out 0 (by omega)
                rw [HE0.out, Nat.add_zero] at hc01
                clear hc00 hu2 HU
                obtain ⟨a2, k2, hve, _, _⟩ := id hv2
                rw [List.length_map] at hve
                obtain ⟨N2, hN2⟩ : ∃ N, N = S.2.1.length := ⟨_, rfl⟩
                rw [← hN2] at hve
                subst hve
                replace hN2 := Lib.hid hN2
                by_cases g4 : c < (hdJ g).length
                · have g4i : (c : Int) < ((hdJ g).length : Int) := by omega
                  have hS := HH.out g4
                  clear HH HP HS
                  subst hS
                  have hN0 : N2 = 0 := hN2.out
                  subst hN0
                  go_wp2_with (refine (lives_any _).mono ?_; rintro e w3 ⟨rfl, hb⟩)
                  go_ret
                  exact ⟨rfl, bt hb12 hb⟩
                · have g4i : ¬ (c : Int) < ((hdJ g).length : Int) := by omega
                  clear HH HS
                  go_wp2_with fail
                  go_loop [15, 16] (fun x i => ∃ W m : Nat, x = .int .i64 W ∧ i = .int .i64 m ∧ 1 ≤ m ∧ m ≤ k + 1 ∧ W < m ∧ endJ g L W ≤ c ∧ ∀ q, W < q → q < m → c < endJ g L q) (fun _ i => k + 1 - (intOf i).toNat)
                  case atStart => exact ⟨0, 1, rfl, rfl, Nat.le_refl _, by omega, by omega, by rw [HE0.out]; omega, fun q _ _ => by omega⟩
                  case round =>
                    obtain ⟨W, m, rfl, rfl, hm1, hm2, hW, hWc, hWq⟩ := hrel
                    by_cases hlt : m < k + 1
                    · have hcm := HCU.out m hlt
                      have hlti : (m : Int) < (k : Int) + 1 := by omega
                      by_cases hle : endJ g L m ≤ c
                      · have hlei : (endJ g L m : Int) ≤ (c : Int) := by omega
                        go_wp2_with fail
                        exact ⟨⟨m, m + 1, rfl, by go_num, by omega, by omega, by omega, hle, fun q _ _ => by omega⟩, by simp [intOf]; omega⟩
                      · have hlei : ¬ (endJ g L m : Int) ≤ (c : Int) := by omega
                        have hWq2 : ∀ q, W < q → q < m + 1 → c < endJ g L q := fun q h1 h2 => by
                          by_cases e : q = m
                          · subst e; omega
                          · exact hWq q h1 (by omega)
                        clear hWq hle
                        go_wp2_with fail
                        exact ⟨⟨W, m + 1, rfl, by go_num, by omega, by omega, by omega, hWc, hWq2⟩, by simp [intOf]; omega⟩
                    · obtain rfl : m = k + 1 := by omega
                      obtain ⟨e, hS, heq⟩ := HP.out W (by omega) hWc (fun h => hWq (W + 1) (by omega) (by omega))
                      subst hS
                      have hcW := HCU.out W (by omega)
                      have hlg : (L.take W).map mk = l.take W := HMk.out W
                      have hvl := (HV.out w2 hb12).take W (by omega)
                      have HSa := Lib.hid (sameS_any _ _ _ _ _ _ _ _ w2 hv2 hvl (by rw [hlg, List.length_take]; omega))
                      rw [hlg, decide_eq_true rfl] at HSa
                      have hWi : (W : Int) ≤ (cap : Int) := by omega
                      have hWi2 : (W : Int) < (k : Int) + 1 := by omega
                      have hfin : ((e == 0) == ((endJ g L W : Int) == (c : Int))) = true := by
                        by_cases h : e = 0
                        · have h2 := heq.1 h
                          simp [h, h2]
                        · have h2 : ¬ endJ g L W = c := fun x => h (heq.2 x)
                          have h3 : ¬ (endJ g L W : Int) = (c : Int) := by omega
                          rw [beq_eq_false_iff_ne.2 h, beq_eq_false_iff_ne.2 h3]; rfl
                      clear HP HCU hWq heq hlg hvl hv2 hN2
                      go_wp2_with (first | (go_at_call 17; refine HSa.out.mono ?_; rintro e w4 ⟨rfl, n4, rfl⟩) | (go_at_call 10; refine (lives_any _).mono ?_; rintro e w5 ⟨rfl, hb5⟩))
                      go_ret
                      exact ⟨rfl, bt (Below.drewN' hb12 n4) hb5⟩
end Go.Proofs.Ytnglepapodncbaa
