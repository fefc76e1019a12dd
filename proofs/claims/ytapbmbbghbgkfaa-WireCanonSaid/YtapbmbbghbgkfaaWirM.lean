/-
  Fields: their encoding, and the walks of what checks and writes a list of them.
-/
import Derived.Test.YtapbmbbghbgkfaaWirP
open Go Go.RowKit Go.Proofs
namespace Go.Proofs.Ytapbmbbghbgkfaa
namespace Hub
def encF (f : WFd) : List UInt8 := if f.kind = 0 then enc f.n else if f.kind = 1 then encT (bl f.s) else if f.kind = 2 then encB (f.n == 1) else encL f.l
/-- A field is short: at most m bytes, at most m numbers. -/
def WFd.short (m : Nat) (f : WFd) : Prop := f.s.size ≤ m ∧ f.l.length ≤ m
theorem encF_length {f : WFd} (h : f.ok) (hs : f.short 200) : (encF f).length ≤ 2100 := by
  obtain ⟨k0, k1, n0, n1, _, hb, _⟩ := h
  obtain ⟨h1, h2⟩ := hs
  rw [encF]
  split
  · have := enc_length f.n n0 n1; omega
  · split
    · have := enc_length (bl f.s).length (by omega) (by rw [size_bl]; omega)
      rw [encT, List.length_append, size_bl] at *; omega
    · split
      · rw [encB]; split <;> simp
      · have := enc_length f.l.length (by omega) (by omega)
        have := encs_length f.l hb
        rw [encL, List.length_append]; omega
theorem encFs_length (l : List WFd) (h : ∀ f ∈ l, f.ok ∧ f.short 200) : (l.flatMap encF).length ≤ 2100 * l.length := by
  induction l with
  | nil => simp
  | cons a l ih =>
    rw [List.flatMap_cons, List.length_append, List.length_cons]
    have h1 := encF_length (h a (by simp)).1 (h a (by simp)).2
    have h2 := ih (fun x hx => h x (by simp [hx]))
    omega
theorem encFs_take (l : List WFd) (k : Nat) (h : k < l.length) : (l.take (k + 1)).flatMap encF = (l.take k).flatMap encF ++ encF l[k] := by
  rw [List.take_succ_eq_append_getElem h, List.flatMap_append]; simp
theorem encFs_take_length (l : List WFd) (k : Nat) (h : ∀ f ∈ l, f.ok ∧ f.short 200) : ((l.take k).flatMap encF).length ≤ 2100 * l.length := by
  have h1 := encFs_length (l.take k) (fun x hx => h x (List.mem_of_mem_take hx))
  have h2 : (l.take k).length ≤ l.length := by simp; omega
  omega
theorem FdsAt.cells {lo N M k : Nat} {w w' : World} {v : Value} {l : List WFd} (h : FdsAt lo N w v l) (hb : Below M w w') (hN : N ≤ M) (hk : k < l.length) :
    ∃ b off cap, v = .slice (some ⟨b, off, none⟩) l.length cap ∧ b < N ∧ w'.cell? ⟨b, off + k * 4, none⟩ = some (.int .i64 l[k].kind) ∧ w'.cell? ⟨b, off + k * 4 + 1, none⟩ = some (.int .i64 l[k].n) ∧
      w'.cell? ⟨b, off + k * 4 + 2, none⟩ = some (.string l[k].s) ∧ w'.cell? ⟨b, off + k * 4 + 3, none⟩ = some l[k].v ∧ IntsAt lo N w' l[k].v l[k].l := by
  obtain ⟨a, cap, rfl, hc⟩ := h
  obtain ⟨b, off, rfl, _, hbN, hcell⟩ := hc (by intro h; rw [h] at hk; simp at hk)
  obtain ⟨c0, c1, c2, c3, hI⟩ := hcell k hk
  have hlt : b < M := by omega
  exact ⟨b, off, cap, rfl, hbN, (hb.cell (p := ⟨b, off + k * 4, none⟩) hlt).trans c0, (hb.cell (p := ⟨b, off + k * 4 + 1, none⟩) hlt).trans c1, (hb.cell (p := ⟨b, off + k * 4 + 2, none⟩) hlt).trans c2, (hb.cell (p := ⟨b, off + k * 4 + 3, none⟩) hlt).trans c3, hI.below hb hN⟩
theorem below_drewN {N : Nat} {a w : World} (h : Below N a w) (n : Nat) : Below N a (w.drewN n) := ⟨h.os, h.tape, h.output, h.size, h.block⟩
end Hub
open Hub

set_option maxHeartbeats 4000000 in
theorem short_any (v : Value) (l : List WFd) (lo N : Nat) (w : World) (hv : FdsAt lo N w v l) (hN : N ≤ w.heap.size) (hl : l.length ≤ maxLen) (hok : ∀ f ∈ l, f.ok) :
    Calls Try.prog 20 #[v] w fun e w' => (∃ n, w' = w.drewN n) ∧ ((e = .returned (.bool true) ∧ l.length ≤ 20 ∧ ∀ f ∈ l, f.short 100) ∨ e = .returned (.bool false)) := by
  have hl' : l.length ≤ 9223372036854775807 := hl
  have HV := Lib.hid hv
  have HN := Lib.hid hN
  have HO := Lib.hid hok
  clear hok hl hN
  obtain ⟨a, cap, rfl, hc⟩ := hv
  clear hc
  by_cases hll : l.length ≤ 20
  · go_enter Try.func20, Try.ntmps20
    go_wp2_with fail
    go_loopw [3] (fun i wr => ∃ k : Nat, k ≤ l.length ∧ i = .int .i64 k ∧ (∃ n, wr = w.drewN n) ∧ ∀ f ∈ l.take k, f.short 100) (fun i _ => l.length - (intOf i).toNat)
    case atStart => exact ⟨0, Nat.zero_le _, rfl, ⟨0, rfl⟩, fun f hf => by simp at hf⟩
    case round =>
      obtain ⟨k, hk, rfl, ⟨n, rfl⟩, hsh⟩ := hrel
      have HS := Lib.hid hsh
      clear hsh
      by_cases hlt : k < l.length
      · obtain ⟨b, off, cap', he, hbN, c0, c1, c2, c3, hI⟩ := HV.out.cells (M := w.heap.size) (k := k) (w' := w.drewN n) (below_drewN (Below.refl _ _) n) HN.out hlt
        simp only [Value.slice.injEq] at he
        obtain ⟨rfl, _, rfl⟩ := he
        have HT := Lib.hid (List.take_succ_eq_append_getElem hlt)
        obtain ⟨_, _, _, _, hss, _, hls⟩ := HO.out _ (List.getElem_mem hlt)
        generalize l[k] = q at *
        obtain ⟨q0, q1, q2, q3, q4⟩ := q
        simp only at c0 c1 c2 c3 hss hls hI
        obtain ⟨a4, cap4, rfl, _⟩ := hI
        by_cases h1 : (q2.size : Int) ≤ 100
        · by_cases h2 : (q4.length : Int) ≤ 100
          · have g1 : ¬ (100 : Int) < (q2.size : Int) := by omega
            have g2 : ¬ (100 : Int) < (q4.length : Int) := by omega
            go_wp2_with fail
            go_roundw
            case rel => exact ⟨k + 1, by omega, by go_num, ⟨_, rfl⟩, by rw [HT.out]; intro f hf; rcases List.mem_append.1 hf with h | h; exact HS.out f h; obtain rfl := List.mem_singleton.1 h; exact ⟨by simp only; omega, by simp only; omega⟩⟩
            case measure => simp [intOf]; omega
          · have g1 : ¬ (100 : Int) < (q2.size : Int) := by omega
            have g2 : (100 : Int) < (q4.length : Int) := by omega
            go_wp2_with fail
            go_ret
            exact ⟨⟨n, rfl⟩, .inr rfl⟩
        · have g1 : (100 : Int) < (q2.size : Int) := by omega
          go_wp2_with fail
          go_ret
          exact ⟨⟨n, rfl⟩, .inr rfl⟩
      · obtain rfl : k = l.length := by omega
        have hS := HS.out
        rw [List.take_length] at hS
        go_wp2_with fail
        go_ret
        exact ⟨⟨n, rfl⟩, .inl ⟨rfl, hll, hS⟩⟩
  · have hli : (20 : Int) < (l.length : Int) := by omega
    go_enter Try.func20, Try.ntmps20
    go_wp2_with fail
    go_ret
    exact ⟨⟨0, rfl⟩, .inr rfl⟩

set_option maxHeartbeats 4000000 in
theorem bytes_any (v : Value) (l : List WFd) (lo N : Nat) (w : World) (hv : FdsAt lo N w v l) (hN : N ≤ w.heap.size) (hl : l.length ≤ 20) (hok : ∀ f ∈ l, f.ok ∧ f.short 200) :
    Calls Try.prog 22 #[v] w fun e w' => e = .returned (.string (mk (l.flatMap encF))) ∧ Below w.heap.size w w' := by
  have HV := Lib.hid hv
  have HN := Lib.hid hN
  have HO := Lib.hid hok
  clear hok hN
  obtain ⟨a, cap, rfl, hc⟩ := hv
  clear hc
  go_enter Try.func22, Try.ntmps22
  go_wp2_with fail
  go_loopw [3, 4] (fun s i wr => ∃ k : Nat, k ≤ l.length ∧ i = .int .i64 k ∧ s = .string (mk ((l.take k).flatMap encF)) ∧ Below w.heap.size w wr) (fun _ i _ => l.length - (intOf i).toNat)
  case atStart => exact ⟨0, Nat.zero_le _, rfl, by simp; rfl, Below.refl _ _⟩
  case round =>
    obtain ⟨k, hk, rfl, rfl, hb⟩ := hrel
    by_cases hlt : k < l.length
    · obtain ⟨b, off, cap', he, hbN, c0, c1, c2, c3, hI⟩ := HV.out.cells hb HN.out hlt
      simp only [Value.slice.injEq] at he
      obtain ⟨rfl, _, rfl⟩ := he
      obtain ⟨hq, hq2⟩ := HO.out _ (List.getElem_mem hlt)
      have h1 : (mk ((l.take k).flatMap encF)).size ≤ 42000 := by
        have := encFs_take_length l k HO.out; rw [size_mk]; omega
      have h2 : (mk (encF l[k])).size ≤ 2100 := encF_length hq hq2
      have he : mk ((l.take k).flatMap encF) ++ mk (encF l[k]) = mk ((l.take (k + 1)).flatMap encF) := by
        apply bl_inj; rw [bl_append, bl_mk, bl_mk, bl_mk, encFs_take l k hlt]
      have HE := Lib.hid he
      have hz := Nat.le_trans HN.out hb.size
      have HZ := Lib.hid hz
      clear he hz
      generalize mk ((l.take k).flatMap encF) = S at *
      generalize l[k] = q at *
      obtain ⟨q0, q1, q2, q3, q4⟩ := q
      obtain ⟨_, _, n0, n1, hsz, hbd, hlz⟩ := hq
      obtain ⟨hs, hlq⟩ := hq2
      simp only at c0 c1 c2 c3 n0 n1 hsz hbd hlz hs hlq hI
      by_cases k0 : q0 = 0
      · subst k0
        have HX := Lib.hid (fun w => wInt_any q1 w n0 n1)
        rw [show encF ⟨0, q1, q2, q3, q4⟩ = enc q1 from rfl] at HE h2
        generalize mk (enc q1) = X at *
        clear hI hbd n0 n1
        go_wp2_with fail
        refine (HX.out _).mono ?_
        rintro e w3 ⟨rfl, hb3⟩
        go_wp2_with fail
        rw [HE.out]
        go_roundw
        case rel => exact ⟨k + 1, by omega, by go_num, rfl, bt hb hb3⟩
        case measure => simp [intOf]; omega
      · have k0b : (q0 == 0) = false := by simpa using k0
        by_cases k1 : q0 = 1
        · subst k1
          have HX := Lib.hid (fun w => wText_any q2 w (by omega))
          rw [show encF ⟨1, q1, q2, q3, q4⟩ = encT (bl q2) from rfl] at HE h2
          generalize mk (encT (bl q2)) = X at *
          clear hI hbd n0 n1
          go_wp2_with fail
          refine (HX.out _).mono ?_
          rintro e w3 ⟨rfl, hb3⟩
          go_wp2_with fail
          rw [HE.out]
          go_roundw
          case rel => exact ⟨k + 1, by omega, by go_num, rfl, bt hb hb3⟩
          case measure => simp [intOf]; omega
        · have k1b : (q0 == 1) = false := by simpa using k1
          by_cases k2 : q0 = 2
          · subst k2
            have HX := Lib.hid (fun w => wBool_any (q1 == 1) w)
            rw [show encF ⟨2, q1, q2, q3, q4⟩ = encB (q1 == 1) from rfl] at HE h2
            generalize mk (encB (q1 == 1)) = X at *
            clear hI hbd n0 n1
            go_wp2_with fail
            refine (HX.out _).mono ?_
            rintro e w3 ⟨rfl, rfl⟩
            go_wp2_with fail
            rw [HE.out]
            go_roundw
            case rel => exact ⟨k + 1, by omega, by go_num, rfl, hb⟩
            case measure => simp [intOf]; omega
          · have k2b : (q0 == 2) = false := by simpa using k2
            have HX := Lib.hid (wInts_any q3 q4 lo N wr hI HZ.out (by omega) hbd)
            rw [show encF ⟨q0, q1, q2, q3, q4⟩ = encL q4 by rw [encF, if_neg k0, if_neg k1, if_neg k2]] at HE h2
            generalize mk (encL q4) = X at *
            clear hI hbd n0 n1 k0 k1 k2
            go_wp2_with fail
            refine HX.out.mono ?_
            rintro e w3 ⟨rfl, hb3⟩
            go_wp2_with fail
            rw [HE.out]
            go_roundw
            case rel => exact ⟨k + 1, by omega, by go_num, rfl, bt hb hb3⟩
            case measure => simp [intOf]; omega
    · obtain rfl : k = l.length := by omega
      go_wp2_with fail
      go_ret
      exact ⟨ret_str (by simp), hb⟩
end Go.Proofs.Ytapbmbbghbgkfaa
