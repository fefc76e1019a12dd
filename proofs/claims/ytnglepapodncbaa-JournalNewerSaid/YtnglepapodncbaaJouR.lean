/-
  The walks of the law about prefixes of a journal.
-/
import Derived.Test.YtnglepapodncbaaJouQ
import Derived.Test.YtnglepapodncbaaJouM
import Derived.Deep.LoopGhost
open Go Go.RowKit Go.Proofs
namespace Go.Proofs.Ytnglepapodncbaa
namespace Hub
theorem OwnI.lit1 (w : World) (x : Int) (base : Nat) (hb : base ≤ w.heap.size) : OwnI (w.alloc (.cells #[.int .i64 x] 3)) base (.slice (some ⟨w.heap.size, 0, none⟩) 1 1) [x] :=
  ⟨rfl, .inr ⟨w.heap.size, 1, #[.int .i64 x], rfl, hb, heap_alloc_new w _, Nat.le_refl _, by unfold maxLen; omega, rfl, rfl⟩⟩
/-- The ends of the header and of the first k records. -/
def endsJ (g : Int) (l : List (List UInt8)) (k : Nat) : List Int := (List.range (k + 1)).map fun m : Nat => (endJ g l m : Int)
theorem endsJ_succ (g : Int) (l : List (List UInt8)) (k : Nat) : endsJ g l (k + 1) = endsJ g l k ++ [(endJ g l (k + 1) : Int)] := by
  rw [endsJ, List.range_succ, List.map_append]; rfl
theorem endsJ_length (g : Int) (l : List (List UInt8)) (k : Nat) : (endsJ g l k).length = k + 1 := by simp [endsJ]
theorem endsJ_get (g : Int) (l : List (List UInt8)) (k m : Nat) (h : m < (endsJ g l k).length) : (endsJ g l k)[m] = (endJ g l m : Int) := by simp [endsJ]
theorem endJ_zero (g : Int) (l : List (List UInt8)) : endJ g l 0 = (hdJ g).length := by simp [endJ, recsJ]
theorem StrsAt.get {lo N : Nat} {w : World} {a : Option Addr} {n cap : Nat} {l : List ByteArray} (h : StrsAt lo N w (.slice a n cap) l) (k : Nat) (hk : k < l.length) : ∃ bk off, a = some ⟨bk, off, none⟩ ∧ bk < N ∧ w.cell? ⟨bk, off + k, none⟩ = some (.string l[k]) := by
  obtain ⟨a', cap', e, _, hc⟩ := h
  simp only [Value.slice.injEq] at e
  obtain ⟨rfl, -, -⟩ := e
  obtain ⟨bk, off, rfl, _, hbN, hcell⟩ := hc (by intro e; rw [e] at hk; simp at hk)
  exact ⟨bk, off, rfl, hbN, hcell k hk⟩
theorem IntsAt.get {lo N : Nat} {w : World} {a : Option Addr} {n cap : Nat} {l : List Int} (h : IntsAt lo N w (.slice a n cap) l) (k : Nat) (hk : k < l.length) : ∃ bk off, a = some ⟨bk, off, none⟩ ∧ bk < N ∧ w.cell? ⟨bk, off + k, none⟩ = some (.int .i64 l[k]) := by
  obtain ⟨a', cap', e, hc⟩ := h
  simp only [Value.slice.injEq] at e
  obtain ⟨rfl, -, -⟩ := e
  obtain ⟨bk, off, rfl, _, hbN, hcell⟩ := hc (by intro e; rw [e] at hk; simp at hk)
  exact ⟨bk, off, rfl, hbN, hcell k hk⟩
end Hub
open Hub

set_option maxHeartbeats 1000000 in
theorem build_any (g : Int) (v : Value) (l : List ByteArray) (lo N : Nat) (w : World) (hv : StrsAt lo N w v l) (hN : N ≤ w.heap.size) (h0 : 1 ≤ g) (h1 : g ≤ 1099511627776) (hn : l.length ≤ 12) (hs : ∀ x ∈ l, x.size ≤ 5000) :
    Calls Try.prog 15 #[.int .i64 g, v] w fun e w' => ∃ u, e = .returned (.tuple #[.string (mk (hdJ g ++ recsJ (l.map bl) 0)), u, .bool true]) ∧ OwnI w' w.heap.size u (endsJ g (l.map bl) l.length) ∧ Below w.heap.size w w' := by
  obtain ⟨i0, hi, hz0, hz1, hz2⟩ := info_parts int_info
  have HH := Lib.hid (fun w => wHead_any g w (by omega) (by omega))
  have hhd : headJ g = (hdJ g, 0) := by rw [headJ_yes (by omega) (by omega), hdJ]
  rw [hhd] at HH
  have HV := Lib.hid (fun w' (k : Below w.heap.size w w') => hv.below k hN)
  obtain ⟨a, cap, rfl, hcap, _⟩ := hv
  obtain ⟨L, hL⟩ : ∃ L, L = l.map bl := ⟨_, rfl⟩
  rw [← hL]
  have hLl : L.length = l.length := by rw [hL, List.length_map]
  have hLs : ∀ p ∈ L, p.length ≤ 5000 := fun p hp => by
    rw [hL] at hp
    obtain ⟨x, hx, rfl⟩ := List.mem_map.1 hp
    rw [size_bl]; exact hs x hx
  have hhl : (hdJ g).length ≤ 13 := by
    have := enc_length g (by omega) (by omega)
    rw [hdJ, List.length_append]; show 3 + _ ≤ 13; omega
  have hsz : ∀ k, (hdJ g ++ recsJ (L.take k) 0).length ≤ 60200 := fun k => by
    have h2 := recsJ_size (L.take k) (fun p hp => hLs p (List.mem_of_mem_take hp)) 0
    have h3 : (L.take k).length ≤ 12 := by rw [List.length_take]; omega
    rw [List.length_append]; omega
  have HA := Lib.hid (fun k (hk : k < l.length) w => (show Calls Try.prog 11 #[.string (mk (hdJ g ++ recsJ (L.take k) 0)), .string l[k]] w fun e w' => e = .returned (.tuple #[.string (mk (hdJ g ++ recsJ (L.take (k + 1)) 0)), .int .i64 0]) ∧ Below w.heap.size w w' by
    have hA := wAdd_any (mk (hdJ g ++ recsJ (L.take k) 0)) l[k] w (by have := hsz k; show (hdJ g ++ recsJ (L.take k) 0).length ≤ _; omega) (by have := hs l[k] (List.getElem_mem hk); omega)
    have hkL : k < L.length := by omega
    have e : L.take (k + 1) = L.take k ++ [bl l[k]] := by
      rw [List.take_succ_eq_append_getElem hkL]; congr 2; simp [hL]
    have h2 := addJ_recs (l := L.take k) (p := bl l[k]) h0 h1 (fun p hp => by have := hLs p (List.mem_of_mem_take hp); omega) (by have := hs l[k] (List.getElem_mem hk); rw [size_bl]; omega) (by rw [← e]; have := hsz (k + 1); omega)
    rw [bl_mk, h2, ← e] at hA
    exact hA))
  have HSz := Lib.hid hsz
  have hzm : ∀ k, (mk (hdJ g ++ recsJ (L.take k) 0)).size = endJ g L k := fun k => rfl
  have HZ := Lib.hid hzm
  have hJ0 : mk (hdJ g) = mk (hdJ g ++ recsJ (L.take 0) 0) := by rw [List.take_zero, recsJ, List.append_nil]
  have HJ0 := Lib.hid hJ0
  have hFin : L.take l.length = L := List.take_of_length_le (by omega)
  have HFin := Lib.hid hFin
  clear hzm hsz hs hLs hhd hJ0 hFin hL
  go_enter Try.func15, Try.ntmps15
  go_wp2_with fail
  refine (HH.out _).mono ?_
  rintro e w1 ⟨rfl, hb1⟩
  rw [HJ0.out]
  go_wp2_with fail
  go_loopw [7, 9, 10] (fun j u i wr => ∃ k : Nat, k ≤ l.length ∧ i = .int .i64 k ∧ j = .string (mk (hdJ g ++ recsJ (L.take k) 0)) ∧ OwnI wr w.heap.size u (endsJ g L k) ∧ Below w.heap.size w wr) (fun _ _ i _ => l.length - (intOf i).toNat)
  case atStart =>
    refine ⟨0, Nat.zero_le _, rfl, rfl, ?_, hb1.alloc hb1.size _⟩
    have := OwnI.lit1 w1 (endJ g L 0 : Int) w.heap.size hb1.size
    exact this
  case round =>
    obtain ⟨k, hk, rfl, rfl, hown, hb⟩ := hrel
    by_cases hlt : k < l.length
    · obtain ⟨bk, off, rfl, hbk, hcl⟩ := (HV.out wr hb).get k hlt
      have HAk := Lib.hid (HA.out k hlt)
      have hes := endsJ_succ g L k
      have HES := Lib.hid hes
      have hel := endsJ_length g L k
      have HEL := Lib.hid hel
      have hz := HZ.out (k + 1)
      have HB := Lib.hid hb.size
      have hsz2 := HSz.out (k + 1)
      have hlti : (k : Int) < (l.length : Int) := by omega
      clear hes hel
      generalize l[k] = x at *
      generalize hJ1 : mk (hdJ g ++ recsJ (L.take (k + 1)) 0) = J1 at *
      generalize mk (hdJ g ++ recsJ (L.take k) 0) = J0 at *
      have HJ1 := Lib.hid hJ1
      clear hJ1
      go_wp2_with fail
      refine (HAk.out _).mono ?_
      rintro e w2 ⟨rfl, hb2⟩
      have hown2 := hown.below hb2 (Nat.le_refl _)
      have HB2 := Lib.hid hb2.size
      have HZ1 := Lib.hid hz
      clear hz
      go_wp2_with (at_builtin; refine wpList_append_own _ rfl _ _ 29 rfl w.heap.size 3 i0 (.int .i64 0) 1 8 Try.underlying29 hi hz0 hz1 hz2 rfl (by decide) _ _ _ rfl (OwnI.alloc hown2 _) ⟨w2.heap.size, 0, none⟩ 1 1 [.int .i64 (J1.size : Int)] rfl rfl ?c1 ?c2 ?c3 ?c4 ?c5 ?_)
      case c1 =>
        intro j u hj
        match j, hj with
        | 0, hj => simp at hj; subst hj; simp [Addr.add]
      case c2 => intro u hu; simp at hu; subst hu; rfl
      case c3 => rw [HEL.out]; unfold maxLen; omega
      case c4 => rw [HEL.out]; omega
      case c5 => have := HB2.out; have := HB.out; simp; omega
      intro v' w4 hown' hgrow _
      go_wp2_with fail
      go_roundw
      case rel =>
        refine ⟨k + 1, by omega, by go_num, by rw [HJ1.out], ?_, ?_⟩
        · rw [HES.out]; unfold OwnI; rw [List.length_append, List.map_append]; rw [HZ1.out] at hown'; exact hown'
        · exact ((hb.trans (hb2.mono HB.out)).alloc (Nat.le_trans HB.out HB2.out) _).grown hgrow (by have := HB2.out; have := HB.out; simp; omega) (fun g hg => (World.ownsRow.lt hown2 g hg).1)
      case measure => simp [intOf]; omega
    · have hke : k = l.length := by omega
      subst hke
      rw [HFin.out]
      go_wp2_with fail
      refine bodyPost_ret (v := .tuple #[.string (mk (hdJ g ++ recsJ L 0)), u9, .bool true]) ?_ rfl ⟨_, rfl, hown, hb⟩
      simp [results, Try.results15, go_sem]
end Go.Proofs.Ytnglepapodncbaa
