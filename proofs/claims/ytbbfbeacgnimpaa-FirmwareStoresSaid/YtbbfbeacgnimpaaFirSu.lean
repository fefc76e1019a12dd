/-
  The law: a block that was stored is not missing, all others are as before: the walk.
-/
import Derived.Test.YtbbfbeacgnimpaaFirSt
import Derived.Deep.DeepFit
open Go Go.RowKit Go.Proofs
namespace Go.Proofs.Ytbbfbeacgnimpaa
namespace Hub
theorem StrsAt.len {lo N : Nat} {w : World} {a : Option Addr} {n cap : Nat} {l : List ByteArray} (h : StrsAt lo N w (.slice a n cap) l) : l.length = n := by
  obtain ⟨a', cap', e, _⟩ := h
  simp only [Value.slice.injEq] at e
  exact e.2.1.symm
theorem lc_base {w0 w : World} {n : Nat} (h : Late.LC (w0.drewN n) w) : Below w0.heap.size w0 w := bt (Below.drewN' (Below.refl _ _) n) h
end Hub
open Hub
set_option maxRecDepth 20000 in
set_option maxHeartbeats 8000000 in
theorem lawStores (f : Fw) (u vh vb : Value) (hl : List Bool) (bs : List ByteArray) (i : Int) (x : ByteArray) (w : World) (hu : IntsAt 0 w.heap.size w u f.sums) (hh : BoolsAt 0 w.heap.size w vh hl) (hb : StrsAt 0 w.heap.size w vb bs)
    (k1 : f.sums.length ≤ maxLen) (k2 : hl.length ≤ maxLen) (k3 : bs.length ≤ maxLen) (k4 : x.size ≤ maxLen) :
    Calls Try.prog 9 #[stv f u vh vb i x] w fun e w' => e = .returned (.bool true) ∧ Below w.heap.size w w' := by
  have HG := Lib.hid (fun w' (k : Below w.heap.size w w') => large_any f u vh vb hl bs i x 0 w.heap.size w' (hu.below k (Nat.le_refl _)) (hh.below k (Nat.le_refl _)) (hb.below k (Nat.le_refl _)) k.size k1 k2 k3 k4)
  have hS0 : St w.heap.size f u vh vb i x (w.alloc (.cells #[.int .i64 f.ven, .int .i64 f.ver, u, vh, vb, .int .i64 i, .string x] 41)) := heap_alloc_new w _
  have hw0 := below_box w (.cells #[.int .i64 f.ven, .int .i64 f.ver, u, vh, vb, .int .i64 i, .string x] 41)
  by_cases hg : largeL f hl bs x = true
  · rw [hg] at HG
    clear hg hu hh hb
    unfold stv at *
    go_enter Try.func9, Try.ntmps9
    go_wp2_with (first | (go_at_call 23; refine (HG.out _ hw0).mono ?_; rintro e w1 ⟨rfl, hb1⟩) | (go_at_call 10; refine (awake_any _).mono ?_; rintro e w8 ⟨rfl, hb8⟩))
    go_ret
    exact ⟨rfl, bt hw0 (bt hb1 hb8)⟩
  · obtain ⟨n1, n2, n3, n4, n5⟩ := largeL_no (by simpa using hg)
    have hgf : largeL f hl bs x = false := by simpa using hg
    rw [hgf] at HG
    have hl1 : f.sums.length ≤ 1099511627776 := by omega
    have hx1 : x.size ≤ 1099511627776 := by omega
    by_cases hE : hl.length = f.sums.length ∧ bs.length = f.sums.length
    · obtain ⟨hE1, hE2⟩ := hE
      have HA := Lib.hid (fun w' (k : Below w.heap.size w w') => put_any f u vh vb 0 w.heap.size hl bs i x w' (hu.below k (Nat.le_refl _)) (hh.below k (Nat.le_refl _)) (hb.below k (Nat.le_refl _)) k.size hl1 hx1)
      have HM := Lib.hid (fun w' (k : Below w.heap.size w w') => miss_any f u vh 0 w.heap.size hl w' (hu.below k (Nat.le_refl _)) (hh.below k (Nat.le_refl _)) k.size hl1)
      have HMx := Lib.hid (fun w' p H (k : Below w.heap.size w w') (hp : BoolsAt 0 w'.heap.size w' p H) => miss_any f u p 0 w'.heap.size H w' ((hu.below k (Nat.le_refl _)).wide (Nat.le_refl _) k.size) hp (Nat.le_refl _) hl1)
      have hBs := hb
      obtain ⟨au, cu, rfl, -⟩ := hu
      obtain ⟨ah, ch, rfl, -⟩ := hh
      obtain ⟨ab, cb, rfl, -⟩ := hb
      obtain ⟨n, hn⟩ : ∃ n, f.sums.length = n := ⟨_, rfl⟩
      rw [hn] at hE1 hE2 n1
      by_cases he : verF f i x = 0
      · have hz : chkF f = 0 := by
          by_cases hz : chkF f = 0
          · exact hz
          · rw [verF_bad hz] at he; exact absurd he hz
        have hvb := he
        rw [verF_zero hz] at hvb
        obtain ⟨hi0, hi1⟩ := verB_range hvb
        obtain ⟨q, rfl⟩ := Int.eq_ofNat_of_zero_le hi0
        have hqn : q < n := by omega
        have hpf : putF f hl bs (q : Int) x = (hl.set q true, bs.set q x, 0) := by
          rw [putF_good (by simpa using he), hn, haveL, dataL, if_pos ⟨hE1, hE2⟩, if_pos ⟨hE1, hE2⟩, Int.toNat_natCast]
        have HSs := Lib.hid (miss_set_self (n := n) hE1 hqn)
        have HSo := Lib.hid (fun m hm => miss_set_other (n := n) (m := m) hE1 hqn hm)
        have hma : ∀ H : List Bool, missF f H = missN n H n := fun H => by rw [missF_zero hz, hn]
        have hmal : ∀ H : List Bool, (missN n H n).length ≤ 1099511627776 := fun H => Nat.le_trans (missN_length _ _ _) (by omega)
        have hbx : (bs.set q x).length = n := by rw [List.length_set]; exact hE2
        have hhx : (hl.set q true).length = n := by rw [List.length_set]; exact hE1
        have HQ := Lib.hid (show ∀ m (hm : m < bs.length) (hm2 : m < (bs.set q x).length), m ≠ q → (bs.set q x)[m] = bs[m] from fun m hm hm2 hne => by rw [List.getElem_set_ne (Ne.symm hne)])
        have HQ2 := Lib.hid (show ∀ (hm2 : q < (bs.set q x).length), (bs.set q x)[q] = x from fun hm2 => by rw [List.getElem_set_self])
        rw [hpf] at HA
        simp only [hma] at HM HMx
        have hml1 := hmal hl
        have hml2 := hmal (hl.set q true)
        have HMa := Lib.hid (fun w' p (k : Below w.heap.size w w') (hp : BoolsAt 0 w'.heap.size w' p (hl.set q true)) => HMx.out w' p (hl.set q true) k hp)
        unfold stv fwv at *
        rw [hn] at *
        rw [hE1, hE2] at *
        have HBD := Lib.hid (show (bs.set q x).length = bs.length from List.length_set ..)
        generalize missN n (hl.set q true) n = Ma at *
        generalize missN n hl n = Mb at *
        generalize hl.set q true = Hx at *
        generalize bs.set q x = Dx at *
        have Hn80 := Lib.hid n1
        clear hg hgf n1 n2 n3 n4 n5 k1 k2 k3 k4 hl1 hx1 he hz hvb hi0 hi1 hma hmal hpf hn HMx
        have Hhx := Lib.hid hhx
        have Hbx := Lib.hid hbx
        have Hml1 := Lib.hid hml1
        have Hml2 := Lib.hid hml2
        clear hhx hbx hml1 hml2 hE1 hE2
        go_enter Try.func9, Try.ntmps9
        go_wp2_with (go_at_call 23; refine (HG.out _ hw0).mono ?_; rintro e w1 ⟨rfl, hb1⟩; have hS1 := hS0.below hb1 hS0.lt; have c0 := hS1.c0; have c1 := hS1.c1; have c2 := hS1.c2; have c3 := hS1.c3; have c4 := hS1.c4; have c5 := hS1.c5; have c6 := hS1.c6)
        have hw1 := bt hw0 hb1
        refine (HA.out _ hw1).mono ?_
        rintro e w2 ⟨p1, q1, rfl, hp, hq, hb2⟩
        have hS2 := hS1.below hb2 hS1.lt
        have hw2 := bt hw1 hb2
        clear c0 c1 c2 c3 c4 c5 c6
        have c0 := hS2.c0
        have c1 := hS2.c1
        have c2 := hS2.c2
        have c3 := hS2.c3
        have c4 := hS2.c4
        have c5 := hS2.c5
        have c6 := hS2.c6
        have hbs2 := hBs.below hw2 (Nat.le_refl _)
        obtain ⟨ap1, cp1, rfl, -⟩ := id hp
        obtain ⟨aq1, cq1, rfl, -⟩ := id hq
        rw [Hhx.out, Hbx.out]
        rw [Hhx.out] at hp
        rw [Hbx.out] at hq
        obtain ⟨bk, off, rfl, hbk, hcq⟩ := hq.get q (by rw [Hbx.out]; exact hqn)
        rw [HQ2.out (by rw [Hbx.out]; exact hqn)] at hcq
        have hqi : (q : Int) < (n : Int) := by omega
        have hq0 : ¬ (q : Int) < 0 := by omega
        have hss : (x.toList == x.toList) = true := beq_self_eq_true _
        have HP := Lib.hid hp
        have HQq := Lib.hid hq
        have HBs2 := Lib.hid hbs2
        have HFq := Lib.hid (fun w' (k : Below w2.heap.size w2 w') => (let h := hS2.below k hS2.lt; ⟨h.c0, h.c1, h.c2, h.c3, h.c4, h.c5, h.c6⟩ : _ ∧ _ ∧ _ ∧ _ ∧ _ ∧ _ ∧ _))
        have HMq := Lib.hid (fun w' (k : Below w2.heap.size w2 w') => HM.out w' (hw2.trans (k.mono hw2.size)))
        have HMaq := Lib.hid (fun w' (k : Below w2.heap.size w2 w') => HMa.out w' _ (hw2.trans (k.mono hw2.size)) ((HP.out.below k (Nat.le_refl _)).wide (Nat.zero_le _) k.size))
        have HLs := Lib.hid (lastsS Mb Ma)
        have Hw2 := Lib.hid hw2
        clear hp hq hbs2 hb2 hb1 hS1 hw0 hw1 hS0 hBs HG HA HM HMa hS2 hw2
        go_wp2_with fail
        go_quiet (fail)
        go_wp2_with fail
        refine Late.late_start (Ls Mb Ma) [(· = .pointer (some ⟨w.heap.size, 0, none⟩)), (· = .agg #[.int .i64 f.ven, .int .i64 f.ver, .slice au n cu]), (· = .pointer (some ⟨w.heap.size, 3, none⟩)), (· = .slice ah n ch), (fun v => ∃ a c, v = .slice a Mb.length c), (· = .pointer (some ⟨w.heap.size, 0, none⟩)), (· = .agg #[.int .i64 f.ven, .int .i64 f.ver, .slice au n cu]), (· = .slice ap1 n cp1), (fun v => ∃ a c, v = .slice a Ma.length c), (fun v => ∃ a c, v = .slice a Mb.length c), (fun v => ∃ a c, v = .slice a Ma.length c)] (by kernel_rfl) (by kernel_rfl) (by intro d F hF; simp only [Ls, List.mem_cons, Prod.mk.injEq, List.not_mem_nil, or_false] at hF; rcases hF with ⟨rfl, rfl⟩ | ⟨rfl, rfl⟩ | ⟨rfl, rfl⟩ | ⟨rfl, rfl⟩ <;> rfl) ?_
        refine Late.late_want rfl (fun K hK => ?_)
        refine ⟨Late.late_const HLs.out (.pointer (some ⟨w.heap.size, 0, none⟩)) rfl (fun w' hs => by go_simp), ?_⟩
        intro v hv; rw [show v = (.pointer (some ⟨w.heap.size, 0, none⟩)) from hv]; clear hv v
        go_simp
        refine hK _ ?_
        clear hK K
        refine Late.late_want rfl (fun K hK => ?_)
        refine ⟨Late.late_const HLs.out (.agg #[.int .i64 f.ven, .int .i64 f.ver, .slice au n cu]) rfl (fun w' hs => by obtain ⟨c0, c1, c2, c3, c4, c5, c6⟩ := HFq.out _ (lc_base hs.1); go_simp), ?_⟩
        intro v hv; rw [show v = (.agg #[.int .i64 f.ven, .int .i64 f.ver, .slice au n cu]) from hv]; clear hv v
        go_simp
        refine hK _ ?_
        clear hK K
        refine Late.late_want rfl (fun K hK => ?_)
        refine ⟨Late.late_const HLs.out (.pointer (some ⟨w.heap.size, 3, none⟩)) rfl (fun w' hs => by go_simp), ?_⟩
        intro v hv; rw [show v = (.pointer (some ⟨w.heap.size, 3, none⟩)) from hv]; clear hv v
        go_simp
        refine hK _ ?_
        clear hK K
        refine Late.late_want rfl (fun K hK => ?_)
        refine ⟨Late.late_const HLs.out (.slice ah n ch) rfl (fun w' hs => by obtain ⟨c0, c1, c2, c3, c4, c5, c6⟩ := HFq.out _ (lc_base hs.1); go_simp), ?_⟩
        intro v hv; rw [show v = (.slice ah n ch) from hv]; clear hv v
        go_simp
        refine hK _ ?_
        clear hK K
        refine Late.late_want rfl (fun K hK => ?_)
        refine ⟨Late.late_callT HLs.out (fun v => ∃ a c, v = .slice a Mb.length c) (fInts Mb) 30 #[.agg #[.int .i64 f.ven, .int .i64 f.ver, .slice au n cu], .slice ah n ch] (⟨.slice none Mb.length 0, none, 0, rfl⟩) (by intro d F' hd hF; cases hd; simpa using hF) (fun w' hs => by go_simp) (fun w' hs => (HMq.out w' (lc_base hs.1)).mono fun e w'' ⟨u, he, ho, hb⟩ => ⟨u, he, ownI_slice ho, fInts_own ho, hb⟩), ?_⟩
        rintro v ⟨a5, k5, rfl⟩
        go_simp
        refine hK _ ?_
        clear hK K
        refine Late.late_want rfl (fun K hK => ?_)
        refine ⟨Late.late_const HLs.out (.pointer (some ⟨w.heap.size, 0, none⟩)) rfl (fun w' hs => by go_simp), ?_⟩
        intro v hv; rw [show v = (.pointer (some ⟨w.heap.size, 0, none⟩)) from hv]; clear hv v
        go_simp
        refine hK _ ?_
        clear hK K
        refine Late.late_want rfl (fun K hK => ?_)
        refine ⟨Late.late_const HLs.out (.agg #[.int .i64 f.ven, .int .i64 f.ver, .slice au n cu]) rfl (fun w' hs => by obtain ⟨c0, c1, c2, c3, c4, c5, c6⟩ := HFq.out _ (lc_base hs.1); go_simp), ?_⟩
        intro v hv; rw [show v = (.agg #[.int .i64 f.ven, .int .i64 f.ver, .slice au n cu]) from hv]; clear hv v
        go_simp
        refine hK _ ?_
        clear hK K
        refine Late.late_want rfl (fun K hK => ?_)
        refine ⟨Late.late_const HLs.out (.slice ap1 n cp1) rfl (fun w' hs => by go_simp), ?_⟩
        intro v hv; rw [show v = (.slice ap1 n cp1) from hv]; clear hv v
        go_simp
        refine hK _ ?_
        clear hK K
        refine Late.late_want rfl (fun K hK => ?_)
        refine ⟨Late.late_callT HLs.out (fun v => ∃ a c, v = .slice a Ma.length c) (fInts Ma) 30 #[.agg #[.int .i64 f.ven, .int .i64 f.ver, .slice au n cu], .slice ap1 n cp1] (⟨.slice none Ma.length 0, none, 0, rfl⟩) (by intro d F' hd hF; cases hd; simpa using hF) (fun w' hs => by go_simp) (fun w' hs => (HMaq.out w' (lc_base hs.1)).mono fun e w'' ⟨u, he, ho, hb⟩ => ⟨u, he, ownI_slice ho, fInts_own ho, hb⟩), ?_⟩
        rintro v ⟨a6, k6, rfl⟩
        go_simp
        refine hK _ ?_
        clear hK K
        refine Late.late_want rfl (fun K hK => ?_)
        refine ⟨Late.late_makeT HLs.out (fun v => ∃ a c, v = .slice a Mb.length c) (fInts Mb) (⟨.slice none Mb.length 0, none, 0, rfl⟩) (by intro d F' hd hF; cases hd; simpa using hF) (fun w' hs => ⟨.slice a5 Mb.length k5, w', by go_simp, ⟨⟨_, _, rfl⟩, Late.late_use hs 100 (fInts Mb) (by kernel_rfl) (by simp) nofun, Below.refl _ _⟩⟩), ?_⟩
        rintro v ⟨a7, k7, rfl⟩
        go_simp
        refine hK _ ?_
        clear hK K
        refine Late.late_want rfl (fun K hK => ?_)
        refine ⟨Late.late_makeT HLs.out (fun v => ∃ a c, v = .slice a Ma.length c) (fInts Ma) (⟨.slice none Ma.length 0, none, 0, rfl⟩) (by intro d F' hd hF; cases hd; simpa using hF) (fun w' hs => ⟨.slice a6 Ma.length k6, w', by go_simp, ⟨⟨_, _, rfl⟩, Late.late_use hs 104 (fInts Ma) (by kernel_rfl) (by simp) nofun, Below.refl _ _⟩⟩), ?_⟩
        rintro v ⟨a8, k8, rfl⟩
        go_simp
        refine hK _ ?_
        clear hK K
        refine Late.late_nil ?_
        intro w9 hC9 hT9
        have H6 := Lib.hid (show fInts Mb (.slice a7 Mb.length k7) w9 from (hT9 6 (fInts Mb) (by simp [Ls])).resolve_left nofun)
        have H7 := Lib.hid (show fInts Ma (.slice a8 Ma.length k8) w9 from (hT9 7 (fInts Ma) (by simp [Ls])).resolve_left nofun)
        have hC2 := lc_base hC9
        have HX9 := Lib.hid (fun w' (k : Below w9.heap.size w9 w') => HFq.out w' (bt hC2 k))
        have HQ9 := Lib.hid (fun w' (k : Below w9.heap.size w9 w') => HQq.out.below (bt hC2 k) (Nat.le_refl _))
        have HB9 := Lib.hid (fun w' (k : Below w9.heap.size w9 w') => HBs2.out.below (bt hC2 k) (Nat.le_trans (Nat.le_refl _) Hw2.out.size))
        have HS7 := Lib.hid (fun w' (i : Int) (k : Below w9.heap.size w9 w') => law_stored_any (.slice a8 Ma.length k8) Ma i 0 w9.heap.size w' (H7.out.below k (Nat.le_refl _)) Hml2.out)
        have HS6 := Lib.hid (fun w' (i : Int) (k : Below w9.heap.size w9 w') => law_stored_any (.slice a7 Mb.length k7) Mb i 0 w9.heap.size w' (H6.out.below k (Nat.le_refl _)) Hml1.out)
        have Hw9 := Lib.hid (bt Hw2.out hC2)
        clear hC9 hT9 hC2 c0 c1 c2 c3 c4 c5 c6 hcq
        go_wp2_with fail
        go_loopw [8] (fun i wr => ∃ k : Nat, k ≤ n ∧ i = .int .i64 k ∧ Below w9.heap.size w9 wr) (fun i _ => n - (intOf i).toNat)
        case atStart => exact ⟨0, Nat.zero_le _, rfl, Below.refl _ _⟩
        case round =>
          obtain ⟨k, hk, rfl, hb⟩ := hrel
          by_cases hlt : k < n
          · have hki : (k : Int) < (n : Int) := by omega
            obtain ⟨c0, c1, c2, c3, c4, c5, c6⟩ := HX9.out _ hb
            have hkD : k < Dx.length := by rw [Hbx.out]; exact hlt
            have hkB : k < bs.length := by rw [← HBD.out, Hbx.out]; exact hlt
            obtain ⟨b1, o1, e1, _, hd1⟩ := (HQ9.out _ hb).get k hkD
            obtain ⟨b2, o2, e2, _, hd2⟩ := (HB9.out _ hb).get k hkB
            simp only [Option.some.injEq, Addr.mk.injEq, and_true] at e1
            obtain ⟨rfl, rfl⟩ := e1
            subst e2
            have HSA := Lib.hid (fun m => HS7.out (wr.drewN m) (k : Int) (Below.drewN' hb m))
            have HSB := Lib.hid (fun m => HS6.out (wr.drewN m) (k : Int) (Below.drewN' hb m))
            have Hb := Lib.hid hb
            clear hb
            by_cases hkq : k = q
            · subst hkq
              have hkk : ((k : Int) == (k : Int)) = true := by simp
              have hkk2 : ((k : Int) != (k : Int)) = false := by simp
              rw [HSs.out] at HSA
              generalize Dx[k] = y1 at *
              generalize bs[k] = y2 at *
              go_wp2_with fail
              go_quiet ((go_at_call 34; exact quiet_ret (HSA.out _)))
              go_wp2_with fail
              go_roundw
              case rel =>
                have h80 := Hn80.out
                exact ⟨k + 1, by omega, by rw [show wrap64 ((k : Int) + 1) = (k : Int) + 1 from IntWalk.wrap64_in _ ⟨by omega, by omega⟩]; rfl, Below.drewN' Hb.out _⟩
              case measure =>
                have h80 := Hn80.out
                rw [show wrap64 ((k : Int) + 1) = (k : Int) + 1 from IntWalk.wrap64_in _ ⟨by omega, by omega⟩]
                simp [intOf]; omega
            · have hkk : ((k : Int) == (q : Int)) = false := beq_eq_false_iff_ne.2 (fun e => hkq (Int.ofNat_inj.1 e))
              have hkk2 : ((k : Int) != (q : Int)) = true := bne_iff_ne.2 (fun e => hkq (Int.ofNat_inj.1 e))
              rw [HSo.out k hkq] at HSA
              rw [HQ.out k hkB hkD hkq] at hd1
              generalize bs[k] = y at *
              have hyy : (y.toList == y.toList) = true := beq_self_eq_true _
              cases hst : storedL Mb (k : Int)
              all_goals
                rw [hst] at HSA HSB
                go_wp2_with fail
                go_quiet (first | (go_at_call 34; go_fit (quiet_ret (HSA.out _)); exact fun _ _ h => h) | (go_at_call 34; go_fit (quiet_ret (HSB.out _)); exact fun _ _ h => h))
                go_wp2_with fail
                go_roundw
                case rel =>
                  have h80 := Hn80.out
                  exact ⟨k + 1, by omega, by rw [show wrap64 ((k : Int) + 1) = (k : Int) + 1 from IntWalk.wrap64_in _ ⟨by omega, by omega⟩]; rfl, Below.drewN' Hb.out _⟩
                case measure =>
                  have h80 := Hn80.out
                  rw [show wrap64 ((k : Int) + 1) = (k : Int) + 1 from IntWalk.wrap64_in _ ⟨by omega, by omega⟩]
                  simp [intOf]; omega
          · have hki : ¬ (k : Int) < (n : Int) := by omega
            have Hb := Lib.hid hb
            clear hb
            go_wp2_with (go_at_call 10; refine (awake_any _).mono ?_; rintro e w10 ⟨rfl, hb10⟩)
            go_ret
            exact ⟨rfl, bt (bt Hw9.out Hb.out) hb10⟩
      · have heb : (verF f i x != 0) = true := by simpa using he
        rw [putF_bad he] at HA
        unfold stv fwv at *
        have hq1 : ((hl.length : Int) != (f.sums.length : Int)) = false := by rw [hE1, hn]; simp
        have hq2 : ((bs.length : Int) != (f.sums.length : Int)) = false := by rw [hE2, hn]; simp
        generalize verF f i x = E at *
        clear hg hgf n1 n2 n3 n4 n5 k1 k2 k3 k4 hl1 hx1 he hn hE1 hE2 HM HMx
        go_enter Try.func9, Try.ntmps9
        go_wp2_with (go_at_call 23; refine (HG.out _ hw0).mono ?_; rintro e w1 ⟨rfl, hb1⟩; have hS1 := hS0.below hb1 hS0.lt; have c0 := hS1.c0; have c1 := hS1.c1; have c2 := hS1.c2; have c3 := hS1.c3; have c4 := hS1.c4; have c5 := hS1.c5; have c6 := hS1.c6)
        have hw1 := bt hw0 hb1
        refine (HA.out _ hw1).mono ?_
        rintro e w2 ⟨p1, q1, rfl, hp, hq, hb2⟩
        obtain ⟨ap1, cp1, rfl, -⟩ := id hp
        obtain ⟨aq1, cq1, rfl, -⟩ := id hq
        go_wp2_with (go_at_call 10; refine (awake_any _).mono ?_; rintro e w8 ⟨rfl, hb8⟩)
        go_ret
        exact ⟨rfl, bt hw1 (bt hb2 hb8)⟩
    · obtain ⟨au, cu, rfl, -⟩ := hu
      obtain ⟨ah, ch, rfl, -⟩ := hh
      obtain ⟨ab, cb, rfl, -⟩ := hb
      have hq : ((hl.length : Int) != (f.sums.length : Int)) = true ∨ (((hl.length : Int) != (f.sums.length : Int)) = false ∧ ((bs.length : Int) != (f.sums.length : Int)) = true) := by
        by_cases e : hl.length = f.sums.length
        · right
          refine ⟨by simp [e], ?_⟩
          simp only [bne_iff_ne]
          intro e2
          exact hE ⟨e, by omega⟩
        · left
          simp only [bne_iff_ne]
          omega
      unfold stv at *
      clear hg hgf n1 n2 n3 n4 n5 k1 k2 k3 k4 hl1 hx1 hE
      rcases hq with hq1 | ⟨hq1, hq2⟩
      all_goals
        go_enter Try.func9, Try.ntmps9
        go_wp2_with (first | (go_at_call 23; refine (HG.out _ hw0).mono ?_; rintro e w1 ⟨rfl, hb1⟩; have hS1 := hS0.below hb1 hS0.lt; have c0 := hS1.c0; have c1 := hS1.c1; have c2 := hS1.c2; have c3 := hS1.c3; have c4 := hS1.c4; have c5 := hS1.c5; have c6 := hS1.c6) | (go_at_call 10; refine (awake_any _).mono ?_; rintro e w8 ⟨rfl, hb8⟩))
        go_ret
        exact ⟨rfl, bt hw0 (bt hb1 hb8)⟩
end Go.Proofs.Ytbbfbeacgnimpaa
