/-
  The walk of the chapter's example.
-/
import Derived.Test.YtbbfbeacgnimpaaFirJ
import Derived.Test.YtbbfbeacgnimpaaQuk
open Go Go.RowKit Go.Proofs
namespace Go.Proofs.Ytbbfbeacgnimpaa
namespace Hub
theorem BoolsAt.none (lo N : Nat) (w : World) : BoolsAt lo N w (.slice .none 0 0) [] := BoolsAt.nil _ _ _
theorem below_al {N : Nat} {w w' : World} (h : Below N w w') (hN : N ≤ w.heap.size) (o : Obj) : Below N w (w'.alloc o) := h.alloc (Nat.le_trans hN h.size) o
theorem ints_wrow (w : World) (l : List Int) (n : Nat) (hn : l.length = n) (cs : Array Value) (hc : cs.toList = l.map (Value.int .i64)) (T : TypeId) : IntsAt 0 (w.heap.size + 1) (w.alloc (.cells cs T)) (.slice (some ⟨w.heap.size, 0, none⟩) n n) l := by
  subst hn
  refine ⟨some ⟨w.heap.size, 0, none⟩, l.length, rfl, fun _ => ⟨w.heap.size, 0, rfl, Nat.zero_le _, Nat.lt_succ_self _, fun i hi => ?_⟩⟩
  rw [Nat.zero_add, Lib.cell_of_heap (heap_alloc_new w _), ← Array.getElem?_toList, hc]
  simp [hi]
theorem lit2 (w : World) (T : TypeId) : IntsAt 0 (w.heap.size + 1) (w.alloc (.cells #[.int .i64 0, .int .i64 1] T)) (.slice (some ⟨w.heap.size, 0, none⟩) 2 2) [0, 1] := ints_wrow w [0, 1] 2 rfl _ rfl T
theorem lit1 (w : World) (T : TypeId) : IntsAt 0 (w.heap.size + 1) (w.alloc (.cells #[.int .i64 0] T)) (.slice (some ⟨w.heap.size, 0, none⟩) 1 1) [0] := ints_wrow w [0] 1 rfl _ rfl T
theorem lit2b {w w' : World} {T : TypeId} (h : Below (w.alloc (.cells #[.int .i64 0, .int .i64 1] T)).heap.size (w.alloc (.cells #[.int .i64 0, .int .i64 1] T)) w') : IntsAt 0 (w.heap.size + 1) w' (.slice (some ⟨w.heap.size, 0, none⟩) 2 2) [0, 1] := (lit2 w T).below h (by simp)
theorem lit1b {w w' : World} {T : TypeId} (h : Below (w.alloc (.cells #[.int .i64 0] T)).heap.size (w.alloc (.cells #[.int .i64 0] T)) w') : IntsAt 0 (w.heap.size + 1) w' (.slice (some ⟨w.heap.size, 0, none⟩) 1 1) [0] := (lit1 w T).below h (by simp)
theorem IntsAt.al {lo N : Nat} {w : World} {v : Value} {l : List Int} (h : IntsAt lo N w v l) (hN : N ≤ w.heap.size) (o : Obj) : IntsAt lo N (w.alloc o) v l := h.below (below_box w o) hN
def fInts (l : List Int) : Value → World → Prop := fun v w => IntsAt 0 w.heap.size w v l
theorem fInts_of {l : List Int} {v : Value} {w : World} {lo N : Nat} (h : IntsAt lo N w v l) (hN : N ≤ w.heap.size) : fInts l v w := h.wide (Nat.zero_le _) hN
theorem fInts_own {l : List Int} {v : Value} {w : World} {base : Nat} (h : OwnI w base v l) : fInts l v w := h.ints.wide (Nat.zero_le _) (Nat.le_refl _)
theorem fInts_last {l : List Int} {v : Value} {w w' : World} (h : fInts l v w) (hb : Below w.heap.size w w') : fInts l v w' := (IntsAt.below h hb (Nat.le_refl _)).wide (Nat.le_refl _) hb.size
theorem ownI_slice {l : List Int} {v : Value} {w : World} {base n : Nat} (h : OwnI w base v l) (hn : l.length = n := by rfl) : ∃ a c, v = .slice a n c := by
  obtain ⟨a, c, e, _⟩ := h.ints
  exact ⟨a, c, by rw [e, hn]⟩
abbrev Lk : List (Nat × (Value → World → Prop)) := [(79, fInts [0, 1]), (80, fInts [0, 1]), (90, fInts [0]), (91, fInts [0])]
theorem lastsL : Late.Lasts Lk := by
  intro d F hF
  simp only [Lk, List.mem_cons, Prod.mk.injEq, List.not_mem_nil, or_false] at hF
  rcases hF with ⟨_, rfl⟩ | ⟨_, rfl⟩ | ⟨_, rfl⟩ | ⟨_, rfl⟩ <;> exact fun v w w' h hb => fInts_last h hb
end Hub
open Hub
theorem numsT (v v' : Value) (l : List Int) (lo N lo' N' : Nat) (w : World) (hv : IntsAt lo N w v l) (hv' : IntsAt lo' N' w v' l) (hl : l.length ≤ 1099511627776) :
    Calls Try.prog 29 #[v, v'] w fun e w' => e = .returned (.bool true) ∧ Below w.heap.size w w' := by
  have h := nums_any v v' l l lo N lo' N' w hv hv' hl
  rw [decide_eq_true rfl] at h
  exact h.mono fun e w' ⟨he, n, hn⟩ => ⟨he, hn ▸ Below.drewN' (Below.refl _ _) n⟩

set_option maxHeartbeats 4000000 in
theorem awake_any (w : World) : Calls Try.prog 10 #[] w fun e w' => e = .returned (.bool true) ∧ Below w.heap.size w w' := by
  have HD := Lib.hid (fun w => data_any 100 w (by decide))
  have HD6 := Lib.hid (fun w => data_any 60 w (by decide))
  have HM := Lib.hid (fun w => make_any 3 7 (xs 100) w (by rw [xs_size]; decide))
  rw [ex_make.1] at HM
  have HK := Lib.hid (fun w v lo N hv hN => chk_any exF v lo N w hv hN (by decide))
  rw [ex_make.2] at HK
  have HP := Lib.hid (fun w v lo N hv hN => put_any exF v _ _ lo N [] [] 1 (blk (xs 100) 1) w hv (BoolsAt.nil _ _ _) (StrsAt.nil _ _ _) hN (by decide) (by rw [ex_size1]; decide))
  rw [ex_put] at HP
  have HW := Lib.hid (fun w v vh vb lo N hv hh hb hN => whole_any exF v vh vb lo N [false, true] [ByteArray.empty, blk (xs 100) 1] w hv hh hb hN (by decide) (by intro x hx; simp at hx; rcases hx with rfl | rfl; exact Nat.zero_le _; rw [ex_size1]; decide))
  rw [ex_whole] at HW
  have HV := Lib.hid (fun w v lo N hv hN => verF_any exF v lo N 0 (xs 60) w hv hN (by decide) (by rw [xs_size]; decide))
  rw [ex_ver0] at HV
  have HM0 := Lib.hid (fun w v lo N hv hN => miss_any exF v _ lo N [] w hv (BoolsAt.nil _ _ _) hN (by decide))
  rw [ex_miss0] at HM0
  have HM1 := Lib.hid (fun w v vh lo N hv hh hN => miss_any exF v vh lo N [false, true] w hv hh hN (by decide))
  rw [ex_miss1] at HM1
  have hz0 := ex_size0
  have hz1 := ex_size1
  have hs : exF.sums = [sumB (blk (xs 100) 0), sumB (blk (xs 100) 1)] := rfl
  have hlS : exF.sums.length = 2 := rfl
  unfold fwv at *
  simp only [show exF.ven = 3 from rfl, show exF.ver = 7 from rfl] at HM HK HP HW HV HM0 HM1
  generalize exF.sums = S at *
  clear hs
  generalize blk (xs 100) 0 = B0 at *
  generalize blk (xs 100) 1 = B1 at *
  generalize xs 100 = X at *
  generalize xs 60 = Y at *
  go_enter Try.func10, Try.ntmps10
  go_wp2_with fail
  refine (HD.out _).mono ?_
  rintro e w0 ⟨rfl, rfl⟩
  go_wp2_with fail
  refine (HM.out _).mono ?_
  rintro e w1 ⟨v, u, rfl, hv, hu, hb1⟩
  have hFx : Fb w1.heap.size (.int .i64 3) (.int .i64 7) v (w1.alloc (.cells #[.int .i64 3, .int .i64 7, v] 24)) := heap_alloc_new w1 _
  have hv2 := hv.below (below_box w1 (.cells #[.int .i64 3, .int .i64 7, v] 24)) (Nat.le_refl _)
  have hu2 := hu.below (below_box w1 (.cells #[.int .i64 3, .int .i64 7, v] 24)) (Nat.le_refl _)
  have hb2 : Below w.heap.size w (w1.alloc (.cells #[.int .i64 3, .int .i64 7, v] 24)) := hb1.alloc hb1.size _
  obtain ⟨av, cv, hve, _⟩ := id hv
  rw [hlS] at hve
  subst hve
  obtain ⟨au, cu, rfl, _, _⟩ := id hu
  have hw12 : w1.heap.size ≤ (w1.alloc (.cells #[.int .i64 3, .int .i64 7, .slice av 2 cv] 24)).heap.size := by simp
  obtain ⟨bu, ou, hae, hbu, hc0⟩ := hu.get 0 (by simp)
  obtain ⟨bu', ou', hae', _, hc1⟩ := hu.get 1 (by simp)
  subst hae
  simp only [Option.some.injEq, Addr.mk.injEq, and_true] at hae'
  obtain ⟨rfl, rfl⟩ := hae'
  simp only [List.getElem_cons_zero, List.getElem_cons_succ, Nat.add_zero] at hc0 hc1
  clear hv hu hb1
  go_wp2_with fail
  refine (HK.out _ _ _ _ hv2 hw12).mono ?_
  rintro e w3 ⟨rfl, hb3⟩
  have hF3 := hFx.below hb3 hFx.lt
  have hv3 := hv2.below hb3 hw12
  obtain ⟨bq, oq, hae, _, hd1⟩ := (hu2.below hb3 hw12).get 1 (by simp)
  simp only [Option.some.injEq, Addr.mk.injEq, and_true] at hae
  obtain ⟨rfl, rfl⟩ := hae
  simp only [List.getElem_cons_zero, List.getElem_cons_succ] at hd1
  have hb4 := hb2.trans (hb3.mono hb2.size)
  have hK3 := hF3.lt
  have c0 := hF3.c0
  have c1 := hF3.c1
  have c2 := hF3.c2
  clear hc0 hc1 hb2 hb3 hv2 hu2 hw12 hFx HK
  generalize w1.heap.size = K at *
  go_wp2_with fail
  go_region_with (go_at_call 24; refine (HP.out _ _ _ _ (by exact hv3) (by exact Nat.le_of_lt hK3)).mono ?_; rintro e w5 ⟨v5, u5, rfl, hB5, hS5, hb5⟩)
  all_goals
    have hF5 := Fb.below (show Fb K _ _ _ w3.drew from hF3) hb5 hK3
    have hv5 := IntsAt.below (show IntsAt _ _ w3.drew _ _ from hv3) hb5 (Nat.le_of_lt hK3)
    have hb6 : Below w.heap.size w w5 := (Below.drew' hb4).trans (hb5.mono hb4.size)
    obtain ⟨a5, k5, rfl, -⟩ := id hB5
    obtain ⟨a6, k6, rfl, -⟩ := id hS5
    have hK5 : K < w5.heap.size := hF5.lt
    have e0 := hF5.c0
    have e1 := hF5.c1
    have e2 := hF5.c2
    have HWx := Lib.hid (HW.out w5 _ _ _ 0 w5.heap.size (hv5.wide (Nat.zero_le _) (Nat.le_of_lt hK5)) (hB5.wide (Nat.zero_le _) (Nat.le_refl _)) (hS5.wide (Nat.zero_le _) (Nat.le_refl _)) (Nat.le_refl _))
    clear HP HM HD c0 c1 c2 hd1 hF3 hv3 hb4 hK3
    go_wp2_with (go_at_call 32; refine HWx.out.mono ?_; rintro e w7 ⟨rfl, hb7⟩)
    have hb8 : Below w.heap.size w w7 := bt hb6 hb7
    have hF7 := hF5.below hb7 hK5
    have hv7 := hv5.below hb7 (Nat.le_of_lt hK5)
    have hB7 := hB5.below hb7 (Nat.le_refl _)
    have hs7 := hb7.size
    have HVq := Lib.hid (fun w' (k : Below w7.heap.size w7 w') => HV.out w' _ _ _ (hv7.below k (Nat.le_trans (Nat.le_of_lt hK5) hs7)) (Nat.le_trans (Nat.le_of_lt hK5) (Nat.le_trans hs7 k.size)))
    have HM0q := Lib.hid (fun w' (k : Below w7.heap.size w7 w') => HM0.out w' _ _ _ (hv7.below k (Nat.le_trans (Nat.le_of_lt hK5) hs7)) (Nat.le_trans (Nat.le_of_lt hK5) (Nat.le_trans hs7 k.size)))
    have HM1q := Lib.hid (fun w' (k : Below w7.heap.size w7 w') => HM1.out w' _ _ 0 w5.heap.size ((hv7.below k (Nat.le_trans (Nat.le_of_lt hK5) hs7)).wide (Nat.zero_le _) (Nat.le_of_lt hK5)) ((hB7.below k hs7).wide (Nat.zero_le _) (Nat.le_refl _)) (Nat.le_trans hs7 k.size))
    have HFq := Lib.hid (fun w' (k : Below w7.heap.size w7 w') => (⟨(hF7.below k hF7.lt).c0, (hF7.below k hF7.lt).c1, (hF7.below k hF7.lt).c2⟩ : _ ∧ _ ∧ _))
    have HLs := Lib.hid lastsL
    have Hb8 := Lib.hid hb8
    clear hF5 hv5 hb6 hK5 e0 e1 e2 hb7 hF7 hv7 hB7 hB5 hS5 HV HM0 HM1 HW HWx hb5 hb8 hs7
    refine Late.late_start Lk [(· = .agg #[.int .i64 3, .int .i64 7, .slice av 2 cv]), (· = .string Y), (· = .int .i64 3), (· = .bool true), (· = .bool true), (· = .agg #[.int .i64 3, .int .i64 7, .slice av 2 cv]), (fun v => ∃ a c, v = .slice a 2 c), (fun v => ∃ a c, v = .slice a 2 c), (· = .bool true), (· = .bool true), (· = .bool true), (· = .int .i64 0), (· = .bool true), (· = .bool true), (· = .bool true), (· = .agg #[.int .i64 3, .int .i64 7, .slice av 2 cv]), (· = .slice a5 2 k5), (fun v => ∃ a c, v = .slice a 1 c), (fun v => ∃ a c, v = .slice a 1 c), (· = .bool true), (· = .bool true), (· = .bool true), (· = .int .i64 5), (· = .bool true), (· = .bool true), (· = .bool true)] (by kernel_rfl) (by kernel_rfl) (by intro d F hF; simp only [Lk, List.mem_cons, Prod.mk.injEq, List.not_mem_nil, or_false] at hF; rcases hF with ⟨rfl, rfl⟩ | ⟨rfl, rfl⟩ | ⟨rfl, rfl⟩ | ⟨rfl, rfl⟩ <;> rfl) ?_
    refine Late.late_want rfl (fun K hK => ?_)
    refine ⟨Late.late_const HLs.out (.agg #[.int .i64 3, .int .i64 7, .slice av 2 cv]) rfl (fun w' hs => by obtain ⟨c0, c1, c2⟩ := HFq.out _ hs.1; go_simp), ?_⟩
    rintro v rfl
    go_simp
    refine hK _ ?_
    clear hK K
    refine Late.late_want rfl (fun K hK => ?_)
    refine ⟨Late.late_call HLs.out (.string Y) 35 #[.int .i64 60] rfl (fun w' hs => by go_simp) (fun w' hs => (HD6.out w').mono fun e w'' ⟨he, hw⟩ => ⟨he, hw ▸ Below.refl _ _⟩), ?_⟩
    rintro v rfl
    go_simp
    refine hK _ ?_
    clear hK K
    refine Late.late_want rfl (fun K hK => ?_)
    refine ⟨Late.late_call HLs.out (.int .i64 3) 26 #[.agg #[.int .i64 3, .int .i64 7, .slice av 2 cv], .int .i64 0, .string Y] rfl (fun w' hs => by go_simp) (fun w' hs => HVq.out w' hs.1), ?_⟩
    rintro v rfl
    go_simp
    refine hK _ ?_
    clear hK K
    refine Late.late_want rfl (fun K hK => ?_)
    refine ⟨Late.late_const HLs.out (.bool true) rfl (fun w' hs => by go_simp), ?_⟩
    rintro v rfl
    go_simp
    refine hK _ ?_
    clear hK K
    refine Late.late_want rfl (fun K hK => ?_)
    refine ⟨Late.late_const HLs.out (.bool true) rfl (fun w' hs => by go_simp), ?_⟩
    rintro v rfl
    go_simp
    refine hK _ ?_
    clear hK K
    refine Late.late_want rfl (fun K hK => ?_)
    refine ⟨Late.late_const HLs.out (.agg #[.int .i64 3, .int .i64 7, .slice av 2 cv]) rfl (fun w' hs => by obtain ⟨c0, c1, c2⟩ := HFq.out _ hs.1; go_simp), ?_⟩
    rintro v rfl
    go_simp
    refine hK _ ?_
    clear hK K
    refine Late.late_want rfl (fun K hK => ?_)
    refine ⟨Late.late_callT HLs.out (fun v => ∃ a c, v = .slice a 2 c) (fInts [0, 1]) 30 #[.agg #[.int .i64 3, .int .i64 7, .slice av 2 cv], .slice none 0 0] (⟨.slice none 2 0, none, 0, rfl⟩) (by intro d F' hd hF; cases hd; simpa using hF) (fun w' hs => by go_simp) (fun w' hs => (HM0q.out w' hs.1).mono fun e w'' ⟨u, he, ho, hb⟩ => ⟨u, he, ownI_slice ho, fInts_own ho, hb⟩), ?_⟩
    rintro v ⟨a2, c2, rfl⟩
    go_simp
    refine hK _ ?_
    clear hK K
    refine Late.late_want rfl (fun K hK => ?_)
    refine ⟨Late.late_makeT HLs.out (fun v => ∃ a c, v = .slice a 2 c) (fInts [0, 1]) (⟨.slice none 2 0, none, 0, rfl⟩) (by intro d F' hd hF; cases hd; simpa using hF) (fun w' hs => ⟨.slice (some ⟨w'.heap.size, 0, none⟩) 2 2, w'.alloc (.cells #[.int .i64 0, .int .i64 1] 3), by go_simp, ⟨⟨_, _, rfl⟩, fInts_of (lit2 w' _) (by simp), below_box w' _⟩⟩), ?_⟩
    rintro v ⟨a2', c2', rfl⟩
    go_simp
    refine hK _ ?_
    clear hK K
    refine Late.late_want rfl (fun K hK => ?_)
    refine ⟨Late.late_call HLs.out (.bool true) 29 #[.slice a2 2 c2, .slice a2' 2 c2'] rfl (fun w' hs => by go_simp) (fun w' hs => numsT _ _ [0, 1] _ _ _ _ _ (Late.late_use hs 79 (fInts [0, 1]) (by kernel_rfl) (by simp) nofun) (Late.late_use hs 80 (fInts [0, 1]) (by kernel_rfl) (by simp) nofun) (by decide)), ?_⟩
    rintro v rfl
    go_simp
    refine hK _ ?_
    clear hK K
    refine Late.late_want rfl (fun K hK => ?_)
    refine ⟨Late.late_const HLs.out (.bool true) rfl (fun w' hs => by go_simp), ?_⟩
    rintro v rfl
    go_simp
    refine hK _ ?_
    clear hK K
    refine Late.late_want rfl (fun K hK => ?_)
    refine ⟨Late.late_const HLs.out (.bool true) rfl (fun w' hs => by go_simp), ?_⟩
    rintro v rfl
    go_simp
    refine hK _ ?_
    clear hK K
    refine Late.late_want rfl (fun K hK => ?_)
    refine ⟨Late.late_const HLs.out (.int .i64 0) rfl (fun w' hs => by go_simp), ?_⟩
    rintro v rfl
    go_simp
    refine hK _ ?_
    clear hK K
    refine Late.late_want rfl (fun K hK => ?_)
    refine ⟨Late.late_const HLs.out (.bool true) rfl (fun w' hs => by go_simp), ?_⟩
    rintro v rfl
    go_simp
    refine hK _ ?_
    clear hK K
    refine Late.late_want rfl (fun K hK => ?_)
    refine ⟨Late.late_const HLs.out (.bool true) rfl (fun w' hs => by go_simp), ?_⟩
    rintro v rfl
    go_simp
    refine hK _ ?_
    clear hK K
    refine Late.late_want rfl (fun K hK => ?_)
    refine ⟨Late.late_const HLs.out (.bool true) rfl (fun w' hs => by go_simp), ?_⟩
    rintro v rfl
    go_simp
    refine hK _ ?_
    clear hK K
    refine Late.late_want rfl (fun K hK => ?_)
    refine ⟨Late.late_const HLs.out (.agg #[.int .i64 3, .int .i64 7, .slice av 2 cv]) rfl (fun w' hs => by obtain ⟨c0, c1, c2⟩ := HFq.out _ hs.1; go_simp), ?_⟩
    rintro v rfl
    go_simp
    refine hK _ ?_
    clear hK K
    refine Late.late_want rfl (fun K hK => ?_)
    refine ⟨Late.late_const HLs.out (.slice a5 2 k5) rfl (fun w' hs => by go_simp), ?_⟩
    rintro v rfl
    go_simp
    refine hK _ ?_
    clear hK K
    refine Late.late_want rfl (fun K hK => ?_)
    refine ⟨Late.late_callT HLs.out (fun v => ∃ a c, v = .slice a 1 c) (fInts [0]) 30 #[.agg #[.int .i64 3, .int .i64 7, .slice av 2 cv], .slice a5 2 k5] (⟨.slice none 1 0, none, 0, rfl⟩) (by intro d F' hd hF; cases hd; simpa using hF) (fun w' hs => by go_simp) (fun w' hs => (HM1q.out w' hs.1).mono fun e w'' ⟨u, he, ho, hb⟩ => ⟨u, he, ownI_slice ho, fInts_own ho, hb⟩), ?_⟩
    rintro v ⟨a1, c1, rfl⟩
    go_simp
    refine hK _ ?_
    clear hK K
    refine Late.late_want rfl (fun K hK => ?_)
    refine ⟨Late.late_makeT HLs.out (fun v => ∃ a c, v = .slice a 1 c) (fInts [0]) (⟨.slice none 1 0, none, 0, rfl⟩) (by intro d F' hd hF; cases hd; simpa using hF) (fun w' hs => ⟨.slice (some ⟨w'.heap.size, 0, none⟩) 1 1, w'.alloc (.cells #[.int .i64 0] 3), by go_simp, ⟨⟨_, _, rfl⟩, fInts_of (lit1 w' _) (by simp), below_box w' _⟩⟩), ?_⟩
    rintro v ⟨a1', c1', rfl⟩
    go_simp
    refine hK _ ?_
    clear hK K
    refine Late.late_want rfl (fun K hK => ?_)
    refine ⟨Late.late_call HLs.out (.bool true) 29 #[.slice a1 1 c1, .slice a1' 1 c1'] rfl (fun w' hs => by go_simp) (fun w' hs => numsT _ _ [0] _ _ _ _ _ (Late.late_use hs 90 (fInts [0]) (by kernel_rfl) (by simp) nofun) (Late.late_use hs 91 (fInts [0]) (by kernel_rfl) (by simp) nofun) (by decide)), ?_⟩
    rintro v rfl
    go_simp
    refine hK _ ?_
    clear hK K
    refine Late.late_want rfl (fun K hK => ?_)
    refine ⟨Late.late_const HLs.out (.bool true) rfl (fun w' hs => by go_simp), ?_⟩
    rintro v rfl
    go_simp
    refine hK _ ?_
    clear hK K
    refine Late.late_want rfl (fun K hK => ?_)
    refine ⟨Late.late_const HLs.out (.bool true) rfl (fun w' hs => by go_simp), ?_⟩
    rintro v rfl
    go_simp
    refine hK _ ?_
    clear hK K
    refine Late.late_want rfl (fun K hK => ?_)
    refine ⟨Late.late_const HLs.out (.int .i64 5) rfl (fun w' hs => by go_simp), ?_⟩
    rintro v rfl
    go_simp
    refine hK _ ?_
    clear hK K
    refine Late.late_want rfl (fun K hK => ?_)
    refine ⟨Late.late_const HLs.out (.bool true) rfl (fun w' hs => by go_simp), ?_⟩
    rintro v rfl
    go_simp
    refine hK _ ?_
    clear hK K
    refine Late.late_want rfl (fun K hK => ?_)
    refine ⟨Late.late_const HLs.out (.bool true) rfl (fun w' hs => by go_simp), ?_⟩
    rintro v rfl
    go_simp
    refine hK _ ?_
    clear hK K
    refine Late.late_want rfl (fun K hK => ?_)
    refine ⟨Late.late_const HLs.out (.bool true) rfl (fun w' hs => by go_simp), ?_⟩
    rintro v rfl
    go_simp
    refine hK _ ?_
    clear hK K
    refine Late.late_nil ?_
    intro w' hC' _
    go_wp2_with fail
    go_ret
    exact ⟨rfl, bt Hb8.out hC'⟩
end Go.Proofs.Ytbbfbeacgnimpaa
