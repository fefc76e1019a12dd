/-
  The law: a block is checked and stored, and the missing ones are told, as the reference does.
-/
import Derived.Test.YtbbfbeacgnimpaaFirW
open Go Go.RowKit Go.Proofs
namespace Go.Proofs.Ytbbfbeacgnimpaa
namespace Hub
abbrev Lb (M : List Int) : List (Nat × (Value → World → Prop)) := [(77, fInts M), (82, fInts M)]
theorem lastsB (M : List Int) : Late.Lasts (Lb M) := by
  intro d F hF
  simp only [Lb, List.mem_cons, Prod.mk.injEq, List.not_mem_nil, or_false] at hF
  rcases hF with ⟨_, rfl⟩ | ⟨_, rfl⟩ <;> exact fun v w w' h hb => fInts_last h hb
theorem missF_len (f : Fw) (h : List Bool) : (missF f h).length ≤ f.sums.length := by
  rw [missF]; split
  · exact Nat.zero_le _
  · exact missN_length _ _ _
theorem putF_len (f : Fw) (h : List Bool) (b : List ByteArray) (i : Int) (x : ByteArray) : (putF f h b i x).1.length ≤ f.sums.length ∧ (putF f h b i x).2.1.length ≤ f.sums.length := by
  rw [putF]; split
  · exact ⟨Nat.zero_le _, Nat.zero_le _⟩
  · simp [haveL_length, dataL_length]
end Hub
open Hub

set_option maxHeartbeats 4000000 in
theorem lawBlocks (f : Fw) (u vh vb : Value) (hl : List Bool) (bs : List ByteArray) (i : Int) (x : ByteArray) (w : World) (hu : IntsAt 0 w.heap.size w u f.sums) (hh : BoolsAt 0 w.heap.size w vh hl) (hb : StrsAt 0 w.heap.size w vb bs)
    (k1 : f.sums.length ≤ maxLen) (k2 : hl.length ≤ maxLen) (k3 : bs.length ≤ maxLen) (k4 : x.size ≤ maxLen) :
    Calls Try.prog 6 #[stv f u vh vb i x] w fun e w' => e = .returned (.bool true) ∧ Below w.heap.size w w' := by
  have HG := Lib.hid (fun w' (k : Below w.heap.size w w') => large_any f u vh vb hl bs i x 0 w.heap.size w' (hu.below k (Nat.le_refl _)) (hh.below k (Nat.le_refl _)) (hb.below k (Nat.le_refl _)) k.size k1 k2 k3 k4)
  have hS0 : St w.heap.size f u vh vb i x (w.alloc (.cells #[.int .i64 f.ven, .int .i64 f.ver, u, vh, vb, .int .i64 i, .string x] 41)) := heap_alloc_new w _
  have hw0 := below_box w (.cells #[.int .i64 f.ven, .int .i64 f.ver, u, vh, vb, .int .i64 i, .string x] 41)
  by_cases hg : largeL f hl bs x = true
  · rw [hg] at HG
    clear hg hu hh hb
    unfold stv at *
    go_enter Try.func6, Try.ntmps6
    go_wp2_with (first | (go_at_call 23; refine (HG.out _ hw0).mono ?_; rintro e w1 ⟨rfl, hb1⟩) | (go_at_call 10; refine (awake_any _).mono ?_; rintro e w8 ⟨rfl, hb8⟩))
    go_ret
    exact ⟨rfl, bt hw0 (bt hb1 hb8)⟩
  · obtain ⟨n1, n2, n3, n4, n5⟩ := largeL_no (by simpa using hg)
    have hgf : largeL f hl bs x = false := by simpa using hg
    rw [hgf] at HG
    have hl1 : f.sums.length ≤ 1099511627776 := by omega
    have hx1 : x.size ≤ 1099511627776 := by omega
    have HA := Lib.hid (fun w' (k : Below w.heap.size w w') => put_any f u vh vb 0 w.heap.size hl bs i x w' (hu.below k (Nat.le_refl _)) (hh.below k (Nat.le_refl _)) (hb.below k (Nat.le_refl _)) k.size hl1 hx1)
    have HX := Lib.hid (fun w' (k : Below w.heap.size w w') => xPut_any f u vh vb 0 w.heap.size hl bs i x w' (hu.below k (Nat.le_refl _)) (hh.below k (Nat.le_refl _)) (hb.below k (Nat.le_refl _)) k.size hl1 hx1)
    have HV := Lib.hid (fun w' (k : Below w.heap.size w w') => verF_any f u 0 w.heap.size i x w' (hu.below k (Nat.le_refl _)) k.size hl1 hx1)
    have XV := Lib.hid (fun w' (k : Below w.heap.size w w') => xVer_any f u 0 w.heap.size i x w' (hu.below k (Nat.le_refl _)) k.size hl1 hx1)
    have HM := Lib.hid (fun w' (k : Below w.heap.size w w') => miss_any f u vh 0 w.heap.size hl w' (hu.below k (Nat.le_refl _)) (hh.below k (Nat.le_refl _)) k.size hl1)
    have XM := Lib.hid (fun w' (k : Below w.heap.size w w') => xMiss_any f u vh 0 w.heap.size hl w' (hu.below k (Nat.le_refl _)) (hh.below k (Nat.le_refl _)) k.size hl1)
    have hpl := putF_len f hl bs i x
    have hMl : (missF f hl).length ≤ 1099511627776 := Nat.le_trans (missF_len f hl) hl1
    obtain ⟨au, cu, rfl, -⟩ := hu
    obtain ⟨ah, ch, rfl, -⟩ := hh
    obtain ⟨ab, cb, rfl, -⟩ := hb
    unfold stv fwv at *
    generalize hU : (.slice au f.sums.length cu : Value) = u at *
    generalize putF f hl bs i x = PF at *
    generalize missF f hl = M at *
    generalize verF f i x = E at *
    have hp1 : PF.1.length ≤ 1099511627776 := by omega
    have hp2 : PF.2.1.length ≤ 1099511627776 := by omega
    clear hg hgf n1 n2 n3 n4 n5 k1 k2 k3 k4 hpl hl1 hx1
    go_enter Try.func6, Try.ntmps6
    go_wp2_with (go_at_call 23; refine (HG.out _ hw0).mono ?_; rintro e w1 ⟨rfl, hb1⟩; have hS1 := hS0.below hb1 hS0.lt; have c0 := hS1.c0; have c1 := hS1.c1; have c2 := hS1.c2; have c3 := hS1.c3; have c4 := hS1.c4; have c5 := hS1.c5; have c6 := hS1.c6)
    have hw1 := bt hw0 hb1
    refine (HA.out _ hw1).mono ?_
    rintro e w2 ⟨p1, q1, rfl, hp, hq, hb2⟩
    have hS2 := hS1.below hb2 hS1.lt
    have hw2 := bt hw1 hb2
    clear c0 c1 c2 c3 c4 c5 c6
    have c0 := hS2.c0
    have c1 := hS2.c1
    have c2 := hS2.c2
    have c3 := hS2.c3
    have c4 := hS2.c4
    have c5 := hS2.c5
    have c6 := hS2.c6
    go_wp2_with fail
    refine (HX.out _ hw2).mono ?_
    rintro e w3 ⟨p3, q3, rfl, hp3, hq3, hb3⟩
    have hS3 := hS2.below hb3 hS2.lt
    have hw3 := bt hw2 hb3
    have hpp := hp.below hb3 (Nat.le_refl _)
    have hqq := hq.below hb3 (Nat.le_refl _)
    have hn23 := hb3.size
    clear c0 c1 c2 c3 c4 c5 c6
    have HFq := Lib.hid (fun w' (k : Below w3.heap.size w3 w') => (⟨(hS3.below k hS3.lt).c0, (hS3.below k hS3.lt).c1, (hS3.below k hS3.lt).c2, (hS3.below k hS3.lt).c3, (hS3.below k hS3.lt).c4, (hS3.below k hS3.lt).c5, (hS3.below k hS3.lt).c6⟩ : _ ∧ _ ∧ _ ∧ _ ∧ _ ∧ _ ∧ _))
    have HVq := Lib.hid (fun w' (k : Below w3.heap.size w3 w') => HV.out w' (bt hw3 k))
    have XVq := Lib.hid (fun w' (k : Below w3.heap.size w3 w') => XV.out w' (bt hw3 k))
    have HMq := Lib.hid (fun w' (k : Below w3.heap.size w3 w') => HM.out w' (bt hw3 k))
    have XMq := Lib.hid (fun w' (k : Below w3.heap.size w3 w') => XM.out w' (bt hw3 k))
    have HFl := Lib.hid (fun w' (k : Below w3.heap.size w3 w') => flagsT p1 p3 PF.1 _ _ _ _ w' (hpp.below k hn23) (hp3.below k (Nat.le_refl _)) hp1)
    have HTx := Lib.hid (fun w' (k : Below w3.heap.size w3 w') => textsT q1 q3 PF.2.1 _ _ _ _ w' (hqq.below k hn23) (hq3.below k (Nat.le_refl _)) hp2)
    have HLs := Lib.hid (lastsB M)
    have Hw3 := Lib.hid hw3
    obtain ⟨ap1, cp1, rfl, -⟩ := id hp
    obtain ⟨ap3, cp3, rfl, -⟩ := id hp3
    obtain ⟨aq1, cq1, rfl, -⟩ := id hq
    obtain ⟨aq3, cq3, rfl, -⟩ := id hq3
    clear hS0 hw0 hb1 hS1 hw1 hp hq hb2 hS2 hw2 hp3 hq3 hb3 hS3 hw3 hpp hqq hn23 HG HA HX HV XV HM XM hp1 hp2
    go_wp2_with fail
    generalize (.slice ap1 PF.1.length cp1 : Value) = p1 at *
    generalize (.slice ap3 PF.1.length cp3 : Value) = p3 at *
    generalize (.slice aq1 PF.2.1.length cq1 : Value) = q1 at *
    generalize (.slice aq3 PF.2.1.length cq3 : Value) = q3 at *
    generalize PF.2.2 = Z at *
    refine Late.late_start (Lb M) [(· = .pointer (some ⟨w.heap.size, 0, none⟩)), (· = .agg #[.int .i64 f.ven, .int .i64 f.ver, u]), (· = .pointer (some ⟨w.heap.size, 5, none⟩)), (· = .int .i64 i), (· = .pointer (some ⟨w.heap.size, 6, none⟩)), (· = .string x), (· = .int .i64 E), (· = .pointer (some ⟨w.heap.size, 0, none⟩)), (· = .agg #[.int .i64 f.ven, .int .i64 f.ver, u]), (· = .pointer (some ⟨w.heap.size, 5, none⟩)), (· = .int .i64 i), (· = .pointer (some ⟨w.heap.size, 6, none⟩)), (· = .string x), (· = .int .i64 E), (· = .bool true), (· = .bool true), (· = p1), (· = p3), (· = .bool true), (· = .bool true), (· = .bool true), (· = q1), (· = q3), (· = .bool true), (· = .bool true), (· = .bool true), (· = .int .i64 Z), (· = .int .i64 Z), (· = .bool true), (· = .bool true), (· = .bool true), (· = .pointer (some ⟨w.heap.size, 0, none⟩)), (· = .agg #[.int .i64 f.ven, .int .i64 f.ver, u]), (· = .pointer (some ⟨w.heap.size, 3, none⟩)), (· = .slice ah hl.length ch), (fun v => ∃ a c, v = .slice a M.length c), (· = .pointer (some ⟨w.heap.size, 0, none⟩)), (· = .agg #[.int .i64 f.ven, .int .i64 f.ver, u]), (· = .pointer (some ⟨w.heap.size, 3, none⟩)), (· = .slice ah hl.length ch), (fun v => ∃ a c, v = .slice a M.length c), (· = .bool true), (· = .bool true), (· = .bool true), (· = .bool true), (· = .bool true), (· = .bool true)] (by kernel_rfl) (by kernel_rfl) (by intro d F hF; simp only [Lb, List.mem_cons, Prod.mk.injEq, List.not_mem_nil, or_false] at hF; rcases hF with ⟨rfl, rfl⟩ | ⟨rfl, rfl⟩ <;> rfl) ?_
    refine Late.late_want rfl (fun K hK => ?_)
    refine ⟨Late.late_const HLs.out (.pointer (some ⟨w.heap.size, 0, none⟩)) rfl (fun w' hs => by go_simp), ?_⟩
    intro v hv; rw [show v = (.pointer (some ⟨w.heap.size, 0, none⟩)) from hv]; clear hv v
    go_simp
    refine hK _ ?_
    clear hK K
    refine Late.late_want rfl (fun K hK => ?_)
    refine ⟨Late.late_const HLs.out (.agg #[.int .i64 f.ven, .int .i64 f.ver, u]) rfl (fun w' hs => by obtain ⟨c0, c1, c2, c3, c4, c5, c6⟩ := HFq.out _ hs.1; go_simp), ?_⟩
    intro v hv; rw [show v = (.agg #[.int .i64 f.ven, .int .i64 f.ver, u]) from hv]; clear hv v
    go_simp
    refine hK _ ?_
    clear hK K
    refine Late.late_want rfl (fun K hK => ?_)
    refine ⟨Late.late_const HLs.out (.pointer (some ⟨w.heap.size, 5, none⟩)) rfl (fun w' hs => by go_simp), ?_⟩
    intro v hv; rw [show v = (.pointer (some ⟨w.heap.size, 5, none⟩)) from hv]; clear hv v
    go_simp
    refine hK _ ?_
    clear hK K
    refine Late.late_want rfl (fun K hK => ?_)
    refine ⟨Late.late_const HLs.out (.int .i64 i) rfl (fun w' hs => by obtain ⟨c0, c1, c2, c3, c4, c5, c6⟩ := HFq.out _ hs.1; go_simp), ?_⟩
    intro v hv; rw [show v = (.int .i64 i) from hv]; clear hv v
    go_simp
    refine hK _ ?_
    clear hK K
    refine Late.late_want rfl (fun K hK => ?_)
    refine ⟨Late.late_const HLs.out (.pointer (some ⟨w.heap.size, 6, none⟩)) rfl (fun w' hs => by go_simp), ?_⟩
    intro v hv; rw [show v = (.pointer (some ⟨w.heap.size, 6, none⟩)) from hv]; clear hv v
    go_simp
    refine hK _ ?_
    clear hK K
    refine Late.late_want rfl (fun K hK => ?_)
    refine ⟨Late.late_const HLs.out (.string x) rfl (fun w' hs => by obtain ⟨c0, c1, c2, c3, c4, c5, c6⟩ := HFq.out _ hs.1; go_simp), ?_⟩
    intro v hv; rw [show v = (.string x) from hv]; clear hv v
    go_simp
    refine hK _ ?_
    clear hK K
    refine Late.late_want rfl (fun K hK => ?_)
    refine ⟨Late.late_call HLs.out (.int .i64 E) 26 #[.agg #[.int .i64 f.ven, .int .i64 f.ver, u], .int .i64 i, .string x] rfl (fun w' hs => by go_simp) (fun w' hs => HVq.out w' hs.1), ?_⟩
    intro v hv; rw [show v = (.int .i64 E) from hv]; clear hv v
    go_simp
    refine hK _ ?_
    clear hK K
    refine Late.late_want rfl (fun K hK => ?_)
    refine ⟨Late.late_const HLs.out (.pointer (some ⟨w.heap.size, 0, none⟩)) rfl (fun w' hs => by go_simp), ?_⟩
    intro v hv; rw [show v = (.pointer (some ⟨w.heap.size, 0, none⟩)) from hv]; clear hv v
    go_simp
    refine hK _ ?_
    clear hK K
    refine Late.late_want rfl (fun K hK => ?_)
    refine ⟨Late.late_const HLs.out (.agg #[.int .i64 f.ven, .int .i64 f.ver, u]) rfl (fun w' hs => by obtain ⟨c0, c1, c2, c3, c4, c5, c6⟩ := HFq.out _ hs.1; go_simp), ?_⟩
    intro v hv; rw [show v = (.agg #[.int .i64 f.ven, .int .i64 f.ver, u]) from hv]; clear hv v
    go_simp
    refine hK _ ?_
    clear hK K
    refine Late.late_want rfl (fun K hK => ?_)
    refine ⟨Late.late_const HLs.out (.pointer (some ⟨w.heap.size, 5, none⟩)) rfl (fun w' hs => by go_simp), ?_⟩
    intro v hv; rw [show v = (.pointer (some ⟨w.heap.size, 5, none⟩)) from hv]; clear hv v
    go_simp
    refine hK _ ?_
    clear hK K
    refine Late.late_want rfl (fun K hK => ?_)
    refine ⟨Late.late_const HLs.out (.int .i64 i) rfl (fun w' hs => by obtain ⟨c0, c1, c2, c3, c4, c5, c6⟩ := HFq.out _ hs.1; go_simp), ?_⟩
    intro v hv; rw [show v = (.int .i64 i) from hv]; clear hv v
    go_simp
    refine hK _ ?_
    clear hK K
    refine Late.late_want rfl (fun K hK => ?_)
    refine ⟨Late.late_const HLs.out (.pointer (some ⟨w.heap.size, 6, none⟩)) rfl (fun w' hs => by go_simp), ?_⟩
    intro v hv; rw [show v = (.pointer (some ⟨w.heap.size, 6, none⟩)) from hv]; clear hv v
    go_simp
    refine hK _ ?_
    clear hK K
    refine Late.late_want rfl (fun K hK => ?_)
    refine ⟨Late.late_const HLs.out (.string x) rfl (fun w' hs => by obtain ⟨c0, c1, c2, c3, c4, c5, c6⟩ := HFq.out _ hs.1; go_simp), ?_⟩
    intro v hv; rw [show v = (.string x) from hv]; clear hv v
    go_simp
    refine hK _ ?_
    clear hK K
    refine Late.late_want rfl (fun K hK => ?_)
    refine ⟨Late.late_call HLs.out (.int .i64 E) 27 #[.agg #[.int .i64 f.ven, .int .i64 f.ver, u], .int .i64 i, .string x] rfl (fun w' hs => by go_simp) (fun w' hs => XVq.out w' hs.1), ?_⟩
    intro v hv; rw [show v = (.int .i64 E) from hv]; clear hv v
    go_simp
    refine hK _ ?_
    clear hK K
    refine Late.late_want rfl (fun K hK => ?_)
    refine ⟨Late.late_const HLs.out (.bool true) rfl (fun w' hs => by go_simp), ?_⟩
    intro v hv; rw [show v = (.bool true) from hv]; clear hv v
    go_simp
    refine hK _ ?_
    clear hK K
    refine Late.late_want rfl (fun K hK => ?_)
    refine ⟨Late.late_const HLs.out (.bool true) rfl (fun w' hs => by go_simp), ?_⟩
    intro v hv; rw [show v = (.bool true) from hv]; clear hv v
    go_simp
    refine hK _ ?_
    clear hK K
    refine Late.late_want rfl (fun K hK => ?_)
    refine ⟨Late.late_const HLs.out (p1) rfl (fun w' hs => by go_simp), ?_⟩
    intro v hv; rw [show v = (p1) from hv]; clear hv v
    go_simp
    refine hK _ ?_
    clear hK K
    refine Late.late_want rfl (fun K hK => ?_)
    refine ⟨Late.late_const HLs.out (p3) rfl (fun w' hs => by go_simp), ?_⟩
    intro v hv; rw [show v = (p3) from hv]; clear hv v
    go_simp
    refine hK _ ?_
    clear hK K
    refine Late.late_want rfl (fun K hK => ?_)
    refine ⟨Late.late_call HLs.out (.bool true) 28 #[p1, p3] rfl (fun w' hs => by go_simp) (fun w' hs => HFl.out w' hs.1), ?_⟩
    intro v hv; rw [show v = (.bool true) from hv]; clear hv v
    go_simp
    refine hK _ ?_
    clear hK K
    refine Late.late_want rfl (fun K hK => ?_)
    refine ⟨Late.late_const HLs.out (.bool true) rfl (fun w' hs => by go_simp), ?_⟩
    intro v hv; rw [show v = (.bool true) from hv]; clear hv v
    go_simp
    refine hK _ ?_
    clear hK K
    refine Late.late_want rfl (fun K hK => ?_)
    refine ⟨Late.late_const HLs.out (.bool true) rfl (fun w' hs => by go_simp), ?_⟩
    intro v hv; rw [show v = (.bool true) from hv]; clear hv v
    go_simp
    refine hK _ ?_
    clear hK K
    refine Late.late_want rfl (fun K hK => ?_)
    refine ⟨Late.late_const HLs.out (q1) rfl (fun w' hs => by go_simp), ?_⟩
    intro v hv; rw [show v = (q1) from hv]; clear hv v
    go_simp
    refine hK _ ?_
    clear hK K
    refine Late.late_want rfl (fun K hK => ?_)
    refine ⟨Late.late_const HLs.out (q3) rfl (fun w' hs => by go_simp), ?_⟩
    intro v hv; rw [show v = (q3) from hv]; clear hv v
    go_simp
    refine hK _ ?_
    clear hK K
    refine Late.late_want rfl (fun K hK => ?_)
    refine ⟨Late.late_call HLs.out (.bool true) 22 #[q1, q3] rfl (fun w' hs => by go_simp) (fun w' hs => HTx.out w' hs.1), ?_⟩
    intro v hv; rw [show v = (.bool true) from hv]; clear hv v
    go_simp
    refine hK _ ?_
    clear hK K
    refine Late.late_want rfl (fun K hK => ?_)
    refine ⟨Late.late_const HLs.out (.bool true) rfl (fun w' hs => by go_simp), ?_⟩
    intro v hv; rw [show v = (.bool true) from hv]; clear hv v
    go_simp
    refine hK _ ?_
    clear hK K
    refine Late.late_want rfl (fun K hK => ?_)
    refine ⟨Late.late_const HLs.out (.bool true) rfl (fun w' hs => by go_simp), ?_⟩
    intro v hv; rw [show v = (.bool true) from hv]; clear hv v
    go_simp
    refine hK _ ?_
    clear hK K
    refine Late.late_want rfl (fun K hK => ?_)
    refine ⟨Late.late_const HLs.out (.int .i64 Z) rfl (fun w' hs => by go_simp), ?_⟩
    intro v hv; rw [show v = (.int .i64 Z) from hv]; clear hv v
    go_simp
    refine hK _ ?_
    clear hK K
    refine Late.late_want rfl (fun K hK => ?_)
    refine ⟨Late.late_const HLs.out (.int .i64 Z) rfl (fun w' hs => by go_simp), ?_⟩
    intro v hv; rw [show v = (.int .i64 Z) from hv]; clear hv v
    go_simp
    refine hK _ ?_
    clear hK K
    refine Late.late_want rfl (fun K hK => ?_)
    refine ⟨Late.late_const HLs.out (.bool true) rfl (fun w' hs => by go_simp), ?_⟩
    intro v hv; rw [show v = (.bool true) from hv]; clear hv v
    go_simp
    refine hK _ ?_
    clear hK K
    refine Late.late_want rfl (fun K hK => ?_)
    refine ⟨Late.late_const HLs.out (.bool true) rfl (fun w' hs => by go_simp), ?_⟩
    intro v hv; rw [show v = (.bool true) from hv]; clear hv v
    go_simp
    refine hK _ ?_
    clear hK K
    refine Late.late_want rfl (fun K hK => ?_)
    refine ⟨Late.late_const HLs.out (.bool true) rfl (fun w' hs => by go_simp), ?_⟩
    intro v hv; rw [show v = (.bool true) from hv]; clear hv v
    go_simp
    refine hK _ ?_
    clear hK K
    refine Late.late_want rfl (fun K hK => ?_)
    refine ⟨Late.late_const HLs.out (.pointer (some ⟨w.heap.size, 0, none⟩)) rfl (fun w' hs => by go_simp), ?_⟩
    intro v hv; rw [show v = (.pointer (some ⟨w.heap.size, 0, none⟩)) from hv]; clear hv v
    go_simp
    refine hK _ ?_
    clear hK K
    refine Late.late_want rfl (fun K hK => ?_)
    refine ⟨Late.late_const HLs.out (.agg #[.int .i64 f.ven, .int .i64 f.ver, u]) rfl (fun w' hs => by obtain ⟨c0, c1, c2, c3, c4, c5, c6⟩ := HFq.out _ hs.1; go_simp), ?_⟩
    intro v hv; rw [show v = (.agg #[.int .i64 f.ven, .int .i64 f.ver, u]) from hv]; clear hv v
    go_simp
    refine hK _ ?_
    clear hK K
    refine Late.late_want rfl (fun K hK => ?_)
    refine ⟨Late.late_const HLs.out (.pointer (some ⟨w.heap.size, 3, none⟩)) rfl (fun w' hs => by go_simp), ?_⟩
    intro v hv; rw [show v = (.pointer (some ⟨w.heap.size, 3, none⟩)) from hv]; clear hv v
    go_simp
    refine hK _ ?_
    clear hK K
    refine Late.late_want rfl (fun K hK => ?_)
    refine ⟨Late.late_const HLs.out (.slice ah hl.length ch) rfl (fun w' hs => by obtain ⟨c0, c1, c2, c3, c4, c5, c6⟩ := HFq.out _ hs.1; go_simp), ?_⟩
    intro v hv; rw [show v = (.slice ah hl.length ch) from hv]; clear hv v
    go_simp
    refine hK _ ?_
    clear hK K
    refine Late.late_want rfl (fun K hK => ?_)
    refine ⟨Late.late_callT HLs.out (fun v => ∃ a c, v = .slice a M.length c) (fInts M) 30 #[.agg #[.int .i64 f.ven, .int .i64 f.ver, u], .slice ah hl.length ch] (⟨.slice none M.length 0, none, 0, rfl⟩) (by intro d F' hd hF; cases hd; simpa using hF) (fun w' hs => by go_simp) (fun w' hs => (HMq.out w' hs.1).mono fun e w'' ⟨u, he, ho, hb⟩ => ⟨u, he, ownI_slice ho, fInts_own ho, hb⟩), ?_⟩
    rintro v ⟨a7, c7, rfl⟩
    go_simp
    refine hK _ ?_
    clear hK K
    refine Late.late_want rfl (fun K hK => ?_)
    refine ⟨Late.late_const HLs.out (.pointer (some ⟨w.heap.size, 0, none⟩)) rfl (fun w' hs => by go_simp), ?_⟩
    intro v hv; rw [show v = (.pointer (some ⟨w.heap.size, 0, none⟩)) from hv]; clear hv v
    go_simp
    refine hK _ ?_
    clear hK K
    refine Late.late_want rfl (fun K hK => ?_)
    refine ⟨Late.late_const HLs.out (.agg #[.int .i64 f.ven, .int .i64 f.ver, u]) rfl (fun w' hs => by obtain ⟨c0, c1, c2, c3, c4, c5, c6⟩ := HFq.out _ hs.1; go_simp), ?_⟩
    intro v hv; rw [show v = (.agg #[.int .i64 f.ven, .int .i64 f.ver, u]) from hv]; clear hv v
    go_simp
    refine hK _ ?_
    clear hK K
    refine Late.late_want rfl (fun K hK => ?_)
    refine ⟨Late.late_const HLs.out (.pointer (some ⟨w.heap.size, 3, none⟩)) rfl (fun w' hs => by go_simp), ?_⟩
    intro v hv; rw [show v = (.pointer (some ⟨w.heap.size, 3, none⟩)) from hv]; clear hv v
    go_simp
    refine hK _ ?_
    clear hK K
    refine Late.late_want rfl (fun K hK => ?_)
    refine ⟨Late.late_const HLs.out (.slice ah hl.length ch) rfl (fun w' hs => by obtain ⟨c0, c1, c2, c3, c4, c5, c6⟩ := HFq.out _ hs.1; go_simp), ?_⟩
    intro v hv; rw [show v = (.slice ah hl.length ch) from hv]; clear hv v
    go_simp
    refine hK _ ?_
    clear hK K
    refine Late.late_want rfl (fun K hK => ?_)
    refine ⟨Late.late_callT HLs.out (fun v => ∃ a c, v = .slice a M.length c) (fInts M) 31 #[.agg #[.int .i64 f.ven, .int .i64 f.ver, u], .slice ah hl.length ch] (⟨.slice none M.length 0, none, 0, rfl⟩) (by intro d F' hd hF; cases hd; simpa using hF) (fun w' hs => by go_simp) (fun w' hs => (XMq.out w' hs.1).mono fun e w'' ⟨u, he, ho, hb⟩ => ⟨u, he, ownI_slice ho, fInts_own ho, hb⟩), ?_⟩
    rintro v ⟨a8, c8, rfl⟩
    go_simp
    refine hK _ ?_
    clear hK K
    refine Late.late_want rfl (fun K hK => ?_)
    refine ⟨Late.late_call HLs.out (.bool true) 29 #[.slice a7 M.length c7, .slice a8 M.length c8] rfl (fun w' hs => by go_simp) (fun w' hs => numsT _ _ M _ _ _ _ _ (Late.late_use hs 77 (fInts M) (by kernel_rfl) (by simp) nofun) (Late.late_use hs 82 (fInts M) (by kernel_rfl) (by simp) nofun) hMl), ?_⟩
    intro v hv; rw [show v = (.bool true) from hv]; clear hv v
    go_simp
    refine hK _ ?_
    clear hK K
    refine Late.late_want rfl (fun K hK => ?_)
    refine ⟨Late.late_const HLs.out (.bool true) rfl (fun w' hs => by go_simp), ?_⟩
    intro v hv; rw [show v = (.bool true) from hv]; clear hv v
    go_simp
    refine hK _ ?_
    clear hK K
    refine Late.late_want rfl (fun K hK => ?_)
    refine ⟨Late.late_const HLs.out (.bool true) rfl (fun w' hs => by go_simp), ?_⟩
    intro v hv; rw [show v = (.bool true) from hv]; clear hv v
    go_simp
    refine hK _ ?_
    clear hK K
    refine Late.late_want rfl (fun K hK => ?_)
    refine ⟨Late.late_call HLs.out (.bool true) 10 #[] rfl (fun w' hs => by go_simp) (fun w' hs => awake_any w'), ?_⟩
    intro v hv; rw [show v = (.bool true) from hv]; clear hv v
    go_simp
    refine hK _ ?_
    clear hK K
    refine Late.late_want rfl (fun K hK => ?_)
    refine ⟨Late.late_const HLs.out (.bool true) rfl (fun w' hs => by go_simp), ?_⟩
    intro v hv; rw [show v = (.bool true) from hv]; clear hv v
    go_simp
    refine hK _ ?_
    clear hK K
    refine Late.late_want rfl (fun K hK => ?_)
    refine ⟨Late.late_const HLs.out (.bool true) rfl (fun w' hs => by go_simp), ?_⟩
    intro v hv; rw [show v = (.bool true) from hv]; clear hv v
    go_simp
    refine hK _ ?_
    clear hK K
    refine Late.late_nil ?_
    intro w' hC' _
    go_wp2_with fail
    go_ret
    exact ⟨rfl, bt Hw3.out hC'⟩
end Go.Proofs.Ytbbfbeacgnimpaa
