/-
  Fragments: the walk of the law on the bounds of a list.
-/
import Derived.Test.YtmjamjadfnbkdaaFuf
open Go Go.RowKit Go.Proofs
namespace Go.Proofs.Ytmjamjadfnbkdaa
namespace Hub
theorem bound_src {s : ByteArray} {m : Nat} {L : List Pk} (hc : chkF s = 0) (h : Bound s m L) {x y : Nat} (hxy : y < x) (hx : x < L.length) : (L[x].src == L[y].src) = false := by
  obtain ⟨ha, _, h1, hp⟩ := h
  by_cases e : byI s 2 = 1
  · rw [h1 e] at hx; simp at hx
  · have h2 := List.pairwise_iff_getElem.1 ha y x (by omega) hx hxy
    obtain ⟨a, ta, _, ea⟩ := hp L[x] (List.getElem_mem hx)
    obtain ⟨b, tb, _, eb⟩ := hp L[y] (List.getElem_mem (show y < L.length by omega))
    have ka : L[x].id = byI s 0 := by rw [ea]; exact (oneP_key hc e a ta).2.1
    have kb : L[y].id = byI s 0 := by rw [eb]; exact (oneP_key hc e b tb).2.1
    refine beq_eq_false_iff_ne.2 fun e2 => h2 ⟨e2.symm, by rw [ka, kb]⟩
theorem expireF_nil (now life : Int) : expireF [] now life = [] := rfl
end Hub
open Hub

set_option maxRecDepth 20000 in
set_option maxHeartbeats 8000000 in
theorem boundsBad (a : Option Addr) (cap M : Nat) (s : ByteArray) (w : World) (h : (40 : Int) < (M : Int) ∨ (200 : Int) < (s.size : Int)) :
    Calls Try.prog 10 #[.slice a M cap, .string s] w fun e w' => e = .returned (.bool true) ∧ Below w.heap.size w w' := by
  by_cases q0 : (40 : Int) < (M : Int)
  · clear h
    go_enter Try.func10, Try.ntmps10
    go_wp2_with (refine (awake_any _).mono ?_; rintro e w1 ⟨rfl, hb⟩)
    go_ret
    exact ⟨rfl, hb⟩
  · have q1 := h.resolve_left q0
    clear h
    go_enter Try.func10, Try.ntmps10
    go_wp2_with (refine (awake_any _).mono ?_; rintro e w1 ⟨rfl, hb⟩)
    go_ret
    exact ⟨rfl, hb⟩

set_option maxRecDepth 20000 in
set_option maxHeartbeats 8000000 in
/-- The piece is bad. -/
theorem boundsErr (v : Value) (l : List Int) (s : ByteArray) (w : World) (hv : IntsAt 0 w.heap.size w v l) (h40 : l.length ≤ 40) (hs : s.size ≤ 200) (hck : ¬ chkF s = 0) :
    Calls Try.prog 10 #[v, .string s] w fun e w' => e = .returned (.bool true) ∧ Below w.heap.size w w' := by
  obtain ⟨a, cap0, rfl, hc⟩ := hv
  obtain ⟨M, hM⟩ : ∃ M, l.length = M := ⟨_, rfl⟩
  rw [hM] at h40 ⊢
  have HM := Lib.hid hM
  have HOr := Lib.hid hc
  have HK := Lib.hid (fun W => chk_any s W (by omega))
  have HA := Lib.hid (fun src W => add_any (.slice none 0 0) [] 0 0 src 0 s W (PtsAt.nil _ _ _) (Nat.zero_le _) (Nat.zero_le _) (by omega))
  rw [List.map_nil] at HA
  simp only [addF_bad hck] at HA
  have HX := Lib.hid (fun now life W => expire_any (.slice none 0 0) [] 0 0 now life W (PtsAt.nil _ _ _) (Nat.zero_le _) (Nat.zero_le _))
  simp only [List.map_nil, expireF_nil] at HX
  have hcne : (chkF s != 0) = true := by simpa using hck
  have hcc : (chkF s == chkF s) = true := beq_self_eq_true _
  generalize chkF s = c at *
  have q0 : ¬ (40 : Int) < (M : Int) := by omega
  have q1 : ¬ (200 : Int) < (s.size : Int) := by omega
  clear hc hM hck
  go_enter Try.func10, Try.ntmps10
  go_wp2_with fail
  go_loopw [5, 25] (fun p q wr => p = .slice none 0 0 ∧ q = .int .i64 0 ∧ wr = w) (fun _ _ _ => 1)
  case atStart => exact ⟨rfl, rfl, rfl⟩
  case round =>
    obtain ⟨rfl, rfl, rfl⟩ := hrel
    by_cases h0 : 0 < M
    · have h0i : (0 : Int) < (M : Int) := by omega
      have hil : 0 < l.length := by rw [HM.out]; exact h0
      obtain ⟨bo, oo, rfl, -, hbo, hcl⟩ := HOr.out (by intro e; rw [e] at hil; simp at hil)
      have c1 := hcl 0 hil
      rw [Nat.add_zero] at c1
      generalize l[0] = x at *
      clear hcl hbo
      go_wp2_with fail
      refine (HA.out x _).mono ?_
      rintro e w3 ⟨u3, m3, rfl, hm3, hp3, hb3⟩
      dsimp only at hm3 ⊢
      have Hb3 := Lib.hid hb3
      clear hm3 hp3 hb3 c1
      go_wp2_with fail
      refine (HK.out _).mono ?_
      rintro e w4 ⟨rfl, hb4⟩
      have Hb4 := Lib.hid (bt Hb3.out hb4)
      clear hb4
      go_wp2_with (refine (awake_any _).mono ?_; rintro e w5 ⟨rfl, hb5⟩)
      go_ret
      exact ⟨rfl, bt Hb4.out hb5⟩
    · obtain rfl : M = 0 := by omega
      go_wp2_with fail
      refine (HX.out 1000 0 _).mono ?_
      rintro e w3 ⟨u3, m3, rfl, hm3, hp3, hb3⟩
      obtain rfl : m3 = [] := List.map_eq_nil_iff.1 hm3
      obtain ⟨⟨a3, c3, rfl, -⟩, -⟩ := hp3
      have Hb3 := Lib.hid hb3
      clear hm3 hb3
      go_wp2_with fail
      refine (HX.out 1000 1099511627776 _).mono ?_
      rintro e w4 ⟨u4, m4, rfl, hm4, hp4, hb4⟩
      obtain rfl : m4 = [] := List.map_eq_nil_iff.1 hm4
      obtain ⟨⟨a4, c4, rfl, -⟩, -⟩ := hp4
      have Hb4 := Lib.hid (bt Hb3.out hb4)
      clear hm4 hb4
      go_wp2_with (refine (awake_any _).mono ?_; rintro e w5 ⟨rfl, hb5⟩)
      go_ret
      exact ⟨rfl, bt Hb4.out hb5⟩

set_option maxRecDepth 20000 in
set_option maxHeartbeats 8000000 in
/-- The piece is good. -/
theorem boundsGood (v : Value) (l : List Int) (s : ByteArray) (w : World) (hv : IntsAt 0 w.heap.size w v l) (h40 : l.length ≤ 40) (hs : s.size ≤ 200) (hck : chkF s = 0) :
    Calls Try.prog 10 #[v, .string s] w fun e w' => e = .returned (.bool true) ∧ Below w.heap.size w w' := by
  obtain ⟨a, cap0, rfl, hc⟩ := hv
  obtain ⟨M, hM⟩ : ∃ M, l.length = M := ⟨_, rfl⟩
  rw [hM] at h40 ⊢
  have HM := Lib.hid hM
  have HOr := Lib.hid hc
  have HAdd := Lib.hid (fun L i src (h : Bound s i L) => bound_add (src := src) hck h)
  have HSrc := Lib.hid (fun L i (h : Bound s i L) x y (hxy : y < x) (hx : x < L.length) => bound_src hck h hxy hx)
  have HExp := Lib.hid (fun L (h : Bound s M L) => bound_expire hck h h40)
  have q0 : ¬ (40 : Int) < (M : Int) := by omega
  have q1 : ¬ (200 : Int) < (s.size : Int) := by omega
  clear hc hM hck
  go_enter Try.func10, Try.ntmps10
  go_wp2_with fail
  go_loopw [5, 25] (fun p q wr => ∃ (i : Nat) (m : List Pt), i ≤ M ∧ q = .int .i64 i ∧ Bound s i (m.map Pt.pk) ∧ PtsAt 0 wr.heap.size wr p m ∧ Below w.heap.size w wr) (fun _ q _ => M - (intOf q).toNat)
  case atStart => exact ⟨0, [], Nat.zero_le _, rfl, Bound.nil s, PtsAt.nil _ _ _, Below.refl _ _⟩
  case round =>
    obtain ⟨i, m, hi, rfl, hbd, hpts, hb⟩ := hrel
    have hml : m.length ≤ 8 := by have := hbd.2.1; rw [List.length_map] at this; exact this
    have Hb := Lib.hid hb
    have Hbd := Lib.hid hbd
    have Hpts := Lib.hid hpts
    clear hb hbd hpts
    by_cases hlt : i < M
    · have hlti : (i : Int) < (M : Int) := by omega
      have hil : i < l.length := by rw [HM.out]; exact hlt
      obtain ⟨bo, oo, rfl, -, hbo, hcl⟩ := HOr.out (by intro e; rw [e] at hil; simp at hil)
      have c1 : wr.cell? ⟨bo, oo + i, none⟩ = some (.int .i64 l[i]) := (Hb.out.cell (p := ⟨bo, oo + i, none⟩) hbo).trans (hcl i hil)
      generalize l[i] = z at *
      obtain ⟨L', t', b', hadd, hbd2⟩ := HAdd.out (m.map Pt.pk) i z Hbd.out
      have HA1 := Lib.hid (add_any u5 m 0 wr.heap.size z (i : Int) s wr Hpts.out (Nat.le_refl _) (by omega) (by omega))
      rw [hadd] at HA1
      have Hbd2 := Lib.hid hbd2
      clear hcl hbo hadd hbd2 hml
      go_wp2_with fail
      refine HA1.out.mono ?_
      rintro e w3 ⟨u3, m3, rfl, hm3, hp3, hb3⟩
      dsimp only at hm3 ⊢
      subst hm3
      have hl3 : m3.length ≤ 8 := by have := Hbd2.out.2.1; rw [List.length_map] at this; exact this
      have Hp3 := Lib.hid (hp3.wide (Nat.zero_le _) (Nat.le_refl _))
      have Hb3 := Lib.hid (bt Hb.out hb3)
      have HR3 := Lib.hid (fun W (k : Below w3.heap.size w3 W) => hp3.1.below k (Nat.le_refl _))
      have HS3 := Lib.hid (fun x y (hxy : y < x) (hx : x < m3.length) => (show (m3[x].pk.src == m3[y].pk.src) = false by have := HSrc.out _ _ Hbd2.out x y hxy (by rw [List.length_map]; exact hx); rw [List.getElem_map, List.getElem_map] at this; exact this))
      obtain ⟨⟨a3, c3, rfl, hc3, -⟩, -⟩ := hp3
      clear hb3 c1
      obtain ⟨n3, hn3⟩ : ∃ n3, m3.length = n3 := ⟨_, rfl⟩
      rw [hn3] at hl3 hc3 HR3 Hp3 ⊢
      have Hn3 := Lib.hid hn3
      clear hn3
      have h8 : ¬ (8 : Int) < (n3 : Int) := by omega
      go_wp2_with fail
      go_loopw [54] (fun q wx => ∃ x : Nat, x ≤ n3 ∧ q = .int .i64 x ∧ Below w3.heap.size w3 wx) (fun q _ => n3 - (intOf q).toNat)
      case atStart => exact ⟨0, Nat.zero_le _, rfl, Below.refl _ _⟩
      case round =>
        obtain ⟨x, hx, rfl, hbx⟩ := hrel
        have Hbx := Lib.hid hbx
        clear hbx
        by_cases hxl : x < n3
        · have hxi : (x : Int) < (n3 : Int) := by omega
          have hxm : x < m3.length := by rw [Hn3.out]; exact hxl
          obtain ⟨bk, off, rfl, -, hbk, -⟩ := (HR3.out _ Hbx.out).cells hxm
          have hxc : (x : Int) ≤ (c3 : Int) := by omega
          go_wp2_with fail
          go_loopw [61] (fun q wy => ∃ y : Nat, y ≤ x ∧ q = .int .i64 y ∧ Below w3.heap.size w3 wy) (fun q _ => x - (intOf q).toNat)
          case atStart => exact ⟨0, Nat.zero_le _, rfl, Hbx.out⟩
          case round =>
            obtain ⟨y, hy, rfl, hby⟩ := hrel
            have Hby := Lib.hid hby
            by_cases hyl : y < x
            · have hyi : (y : Int) < (x : Int) := by omega
              have hyn : (y : Int) < (n3 : Int) := by omega
              obtain ⟨bk1, off1, e1, -, -, hsx⟩ := (HR3.out _ hby).cells hxm
              simp only [Option.some.injEq, Addr.mk.injEq, and_true] at e1
              obtain ⟨rfl, rfl⟩ := e1
              obtain ⟨bk2, off2, e2, -, -, hsy⟩ := (HR3.out _ hby).cells (show y < m3.length by omega)
              simp only [Option.some.injEq, Addr.mk.injEq, and_true] at e2
              obtain ⟨rfl, rfl⟩ := e2
              have hd := HS3.out x y hyl hxm
              have s0 := hsx.2.1
              have r0 := hsy.2.1
              generalize m3[x].pk.src = sx at *
              generalize m3[y].pk.src = sy at *
              clear hsx hsy hby
              go_wp2_with fail
              go_quiet (fail)
              go_wp2_with fail
              go_roundw
              case rel => exact ⟨y + 1, by omega, by go_num, Below.drewN' Hby.out nq⟩
              case measure => simp [intOf]; omega
            · obtain rfl : y = x := by omega
              clear hby
              go_wp2_with fail
              go_roundw
              case rel => exact ⟨y + 1, by omega, by go_num, Hby.out⟩
              case measure => simp [intOf]; omega
        · obtain rfl : x = n3 := by omega
          go_wp2_with fail
          go_roundw
          case rel => exact ⟨i + 1, m3, by omega, by go_num, Hbd2.out, (Hp3.out.below Hbx.out (Nat.le_refl _)).wide (Nat.le_refl _) Hbx.out.size, bt Hb3.out Hbx.out⟩
          case measure => simp [intOf]; omega
    · obtain rfl : i = M := by omega
      obtain ⟨x1, x2⟩ := HExp.out _ Hbd.out
      have HX1 := Lib.hid (expire_any u5 m 0 wr.heap.size 1000 0 wr Hpts.out (Nat.le_refl _) (by omega))
      have HX2 := Lib.hid (fun W (k : Below wr.heap.size wr W) => expire_any u5 m 0 wr.heap.size 1000 1099511627776 W (Hpts.out.below k (Nat.le_refl _)) k.size (by omega))
      rw [x1] at HX1
      rw [x2] at HX2
      obtain ⟨⟨a5, c5, rfl, -⟩, -⟩ := id Hpts.out
      clear x1 x2 Hpts Hbd
      obtain ⟨n5, hn5⟩ : ∃ n5, m.length = n5 := ⟨_, rfl⟩
      rw [hn5] at HX1 HX2 hml ⊢
      have Hn5 := Lib.hid hn5
      clear hn5
      go_wp2_with fail
      refine HX1.out.mono ?_
      rintro e w3 ⟨u3, m3, rfl, hm3, hp3, hb3⟩
      obtain rfl : m3 = [] := List.map_eq_nil_iff.1 hm3
      obtain ⟨⟨a3, c3, rfl, -⟩, -⟩ := hp3
      have Hb3 := Lib.hid hb3
      clear hm3 hb3
      go_wp2_with fail
      refine (HX2.out _ Hb3.out).mono ?_
      rintro e w4 ⟨u4, m4, rfl, hm4, hp4, hb4⟩
      have hl4 : m4.length = n5 := by have := congrArg List.length hm4; rw [List.length_map, List.length_map] at this; rw [this]; exact Hn5.out
      obtain ⟨⟨a4, c4, rfl, -⟩, -⟩ := hp4
      rw [hl4]
      have Hb4 := Lib.hid (bt (bt Hb.out Hb3.out) hb4)
      clear hm4 hb4 hl4
      have h55 : ((n5 : Int) == (n5 : Int)) = true := beq_self_eq_true _
      go_wp2_with (refine (awake_any _).mono ?_; rintro e w5 ⟨rfl, hb5⟩)
      go_ret
      exact ⟨rfl, bt Hb4.out hb5⟩

theorem lawBounds (v : Value) (l : List Int) (s : ByteArray) (w : World) (hv : IntsAt 0 w.heap.size w v l) (_hB : IntB l) (_hl : l.length ≤ maxLen) (_hs : s.size ≤ maxLen) :
    Calls Try.prog 10 #[v, .string s] w fun e w' => e = .returned (.bool true) ∧ Below w.heap.size w w' := by
  by_cases h : (40 : Int) < (l.length : Int) ∨ (200 : Int) < (s.size : Int)
  · obtain ⟨a, cap0, rfl, -⟩ := hv
    exact boundsBad a cap0 l.length s w h
  · by_cases hck : chkF s = 0
    · exact boundsGood v l s w hv (by omega) (by omega) hck
    · exact boundsErr v l s w hv (by omega) (by omega) hck
end Go.Proofs.Ytmjamjadfnbkdaa
