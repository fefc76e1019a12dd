/-
  strings.Join with the empty separator at this program: the walks of Grow and Join.
-/
import Derived.Shelf.Strings.Builder2
import Derived.Test.YtbbfbeacgnimpaaStr
import Derived.Test.YtbbfbeacgnimpaaBld
open Go Go.RowKit Go.Proofs Go.Shelf
namespace Go.Proofs.Ytbbfbeacgnimpaa
namespace Hub
def ren241 : Go.Shelf.Ren := ⟨fun | 241 => 69 | 277 => 71 | n => n, fun | 70 => 77 | 0 => 0 | 72 => 79 | 37 => 76 | 3 => 3 | 5 => 5 | n => n, fun | n => n⟩
theorem lays241 : Go.Proofs.Lays.n241 Try.prog ren241 := {
  mixed := by kernel_rfl
  f241 := Try.func69.trans (congrArg some (by kernel_rfl))
  f277 := Try.func71.trans (congrArg some (by kernel_rfl))
  t0 := Try.underlying0
  a0 := Try.isAgg0
  z0 := Try.sizeOf0
  v0 := Try.zeroValue0
  t3 := Try.underlying3
  a3 := Try.isAgg3
  z3 := Try.sizeOf3
  v3 := Try.zeroValue3
  t37 := Try.underlying76
  a37 := Try.isAgg76
  z37 := Try.sizeOf76
  v37 := Try.zeroValue76
  t70 := Try.underlying77
  a70 := Try.isAgg77
  z70 := Try.sizeOf77
  v70 := Try.zeroValue77
  t72 := Try.underlying79
  a72 := Try.isAgg79
  z72 := Try.sizeOf79
  v72 := Try.zeroValue79 }
theorem extra241 : Builder.Extra Try.prog ren241 := {
  sizeBuilder := by kernel_rfl
  liesBuilder := by kernel_rfl
  t5 := Try.underlying5
  a5 := Try.isAgg5
  z5 := Try.sizeOf5
  v5 := Try.zeroValue5
  infoByte := by kernel_rfl
  cellsByte := by kernel_rfl
  sizeByte := by kernel_rfl
  neB5 := by decide }

def freshObj : Obj := .cells #[.pointer none, .slice none 0 0] 79 (0, 0)
theorem bldFresh {b : Nat} {w : World} (hbk : w.heap[b]? = some freshObj) : Lib.BuilderAt 79 5 b b (.pointer none) [] w :=
  ⟨Nat.le_refl _, .slice none 0 0, hbk, World.ownsRow_nil _ _ _ _, by simp [Value.ownBlock]⟩
set_option maxHeartbeats 1000000 in
set_option maxRecDepth 100000 in
theorem bldCheck0 (b : Nat) (w : World) (hbk : w.heap[b]? = some freshObj) :
    Calls Try.prog 68 #[.pointer (some ⟨b, 0, none⟩)] w fun e w' => e = .returned (.tuple #[]) ∧ w' = w.setCell ⟨b, 0, none⟩ (.pointer (some ⟨b, 0, none⟩)) := by
  obtain ⟨j, hj, hjs⟩ := Option.map_eq_some_iff.1 extra169.sizeBuilder
  have h := bldFresh hbk
  have h0 := h.cell0
  have hsh := h.shape
  have hfz := h.frozen0
  clear h hbk
  go_enter Try.func68, Try.ntmps68
  go_wp2
  rw [Lib.run_to_unsafe w ⟨b, 0, none⟩ Try.underlying77 Try.underlying91 hj (by rw [hjs]; decide) hsh (Nat.zero_lt_succ 1)]
  simp only [Result.andThen]
  rw [Oper.upon_value]
  go_wp2
  rw [run_callFunc_extern Try.func70 (by kernel_rfl) (by kernel_rfl) (by kernel_rfl) (e := Extern.AbiNoEscape.same) (by kernel_rfl)]
  rw [Lib.run_noEscape]
  simp only [Result.andThen]
  rw [Oper.upon_value]
  go_wp2
  rw [Lib.run_from_unsafe w ⟨b, 0, none⟩ Try.underlying91 Try.underlying77 hj hsh extra169.liesBuilder]
  simp only [Result.andThen]
  rw [Oper.upon_value]
  go_wp2
  go_end0
  exact ⟨rfl, rfl⟩

set_option maxHeartbeats 1000000 in
set_option maxRecDepth 100000 in
theorem bldGrow0 (b n : Nat) (w : World) (hbk : w.heap[b]? = some freshObj) (hn : n ≤ 281474976710656) :
    Calls Try.prog 67 #[.pointer (some ⟨b, 0, none⟩), .int .i64 n] w fun e w' => e = .returned (.tuple #[]) ∧ IsBld b [] w' ∧ Below b w w' := by
  have hlb : b < w.heap.size := (Array.getElem?_eq_some_iff.1 hbk).1
  have mixed := lays241.mixed
  have hbk1 : (w.setCell ⟨b, 0, none⟩ (.pointer (some ⟨b, 0, none⟩))).heap[b]? = some (.cells #[.pointer (some ⟨b, 0, none⟩), .slice none 0 0] 79 (0, 0)) := by
    simp [World.setCell, Array.getElem?_modify, hbk, freshObj]
  have c1 : (w.setCell ⟨b, 0, none⟩ (.pointer (some ⟨b, 0, none⟩))).cell? ⟨b, 1, none⟩ = some (.slice none 0 0) := by rw [Lib.cell_of_heap hbk1]; rfl
  have hb1 : Below b w (w.setCell ⟨b, 0, none⟩ (.pointer (some ⟨b, 0, none⟩))) := (Below.refl b w).setCell (p := ⟨b, 0, none⟩) (Nat.le_refl _) _
  have hU : Lib.BuilderAt 79 5 b b (.pointer (some ⟨b, 0, none⟩)) [] (w.setCell ⟨b, 0, none⟩ (.pointer (some ⟨b, 0, none⟩))) := ⟨Nat.le_refl _, .slice none 0 0, hbk1, World.ownsRow_nil _ _ _ _, by simp [Value.ownBlock]⟩
  have hsz : b ≤ (w.setCell ⟨b, 0, none⟩ (.pointer (some ⟨b, 0, none⟩))).drew.heap.size := by
    have : (w.setCell ⟨b, 0, none⟩ (.pointer (some ⟨b, 0, none⟩))).drew.heap.size = w.heap.size := by simp [World.setCell, World.drew, -World.drew_eq]
    omega
  have HG := Lib.hid (Any.Builder_grow_fresh lays241 extra241 b b n (w.setCell ⟨b, 0, none⟩ (.pointer (some ⟨b, 0, none⟩))).drew (Nat.le_refl _) hbk1 hsz hn)
  have c1' : (w.setCell ⟨b, 0, none⟩ (.pointer (some ⟨b, 0, none⟩))).drew.cell? ⟨b, 1, none⟩ = some (.slice none 0 0) := c1
  go_enter Try.func67, Try.ntmps67
  go_wp2_with (go_at_call 68; refine (bldCheck0 b _ hbk).mono ?_; rintro e w1 ⟨rfl, rfl⟩)
  go_region_o
  all_goals go_wp2_with (go_at_call 69; refine HG.out.mono ?_; rintro e w' ⟨rfl, h1, h2⟩)
  all_goals first
    | (go_end0; exact ⟨rfl, .inr h1, hb1.drew.trans h2⟩)
    | (go_end0; exact ⟨rfl, .inr hU.drew, hb1.drew⟩)

/-- The bytes of a list of strings, one after the other. -/
def flat (xs : List ByteArray) : List UInt8 := xs.flatMap bl
theorem flat_take (xs : List ByteArray) (k : Nat) (h : k < xs.length) : flat (xs.take (k + 1)) = flat (xs.take k) ++ bl xs[k] := by
  rw [flat, flat, List.take_succ_eq_append_getElem h, List.flatMap_append]; simp
theorem flat_le (xs : List ByteArray) (k : Nat) : (flat (xs.take k)).length ≤ (flat xs).length := by
  have h : flat xs = flat (xs.take k) ++ flat (xs.drop k) := by rw [flat, flat, flat, ← List.flatMap_append, List.take_append_drop]
  rw [h, List.length_append]; omega
end Hub
open Hub

set_option maxHeartbeats 2000000 in
theorem join_any (xs : List ByteArray) (v : Value) (lo N : Nat) (w : World) (hv : StrsAt lo N w v xs) (hN : N ≤ w.heap.size) (hn : xs.length ≤ 1099511627776) (hl : (flat xs).length ≤ 1099511627776) :
    Calls Try.prog 55 #[v, .string ⟨#[]⟩] w fun e w' => e = .returned (.string (mk (flat xs))) ∧ Below w.heap.size w w' := by
  obtain ⟨a, cap, rfl, hcap, hc⟩ := hv
  by_cases h0 : xs.length = 0
  · obtain rfl := List.length_eq_zero_iff.1 h0
    have e : mk (flat []) = ⟨#[]⟩ := rfl
    rw [e]
    clear hc hl
    go_enter Try.func55, Try.ntmps55
    go_wp2_with fail
    go_ret
    exact ⟨rfl, Below.refl _ _⟩
  · obtain ⟨b, off, rfl, _, hbN, hcell⟩ := hc (by intro h; rw [h] at h0; simp at h0)
    have HC := Lib.hid hcell
    have hbw : b < w.heap.size := by omega
    have c0 : w.cell? ⟨b, off, none⟩ = some (.string xs[0]) := by have := hcell 0 (by omega); rwa [Nat.add_zero] at this
    by_cases h1 : xs.length = 1
    · obtain ⟨x, rfl⟩ := List.length_eq_one_iff.1 h1
      have e : mk (flat [x]) = x := by rw [flat, List.flatMap_cons, List.flatMap_nil, List.append_nil, mk_bl]
      rw [e]
      simp only [List.getElem_cons_zero] at c0
      clear hcell hc hl e h1 h0
      go_enter Try.func55, Try.ntmps55
      go_wp2_with fail
      go_ret
      exact ⟨rfl, Below.refl _ _⟩
    · obtain ⟨L, hL⟩ : ∃ L, xs.length = L := ⟨_, rfl⟩
      rw [hL] at h0 h1 hn hcap ⊢
      have hne0 : ((L : Int) == 0) = false := beq_eq_false_iff_ne.2 (by omega)
      have hne1 : ((L : Int) == 1) = false := beq_eq_false_iff_ne.2 (by omega)
      have HL := Lib.hid hL
      have hlc : (L : Int) ≤ (cap : Int) := by omega
      have hle := fun k => flat_le xs k
      have HLe := Lib.hid hle
      clear hcell hc hL hle
      go_enter Try.func55, Try.ntmps55
      go_wp2_with fail
      go_loop [5, 41] (fun n i => ∃ k : Nat, k ≤ L ∧ i = .int .i64 k ∧ n = .int .i64 (((flat (xs.take k)).length : Nat) : Int)) (fun _ i => L - (intOf i).toNat)
      case atStart => exact ⟨0, Nat.zero_le _, rfl, rfl⟩
      case round =>
        obtain ⟨k, hk, rfl, rfl⟩ := hrel
        by_cases hkn : k < L
        · have hkx : k < xs.length := by rw [HL.out]; exact hkn
          have hck := HC.out k hkx
          have hstep : (flat (xs.take (k + 1))).length = (flat (xs.take k)).length + xs[k].size := by rw [flat_take xs k hkx, List.length_append, size_bl]
          have hbound := HLe.out (k + 1)
          have HS := Lib.hid hstep
          generalize xs[k] = x at *
          have hb1 : ((flat (xs.take k)).length : Int) ≤ 1099511627776 := by omega
          have hb2 : (x.size : Int) ≤ 1099511627776 := by omega
          clear hstep hbound
          generalize (flat (xs.take k)).length = A at *
          go_wp2
          exact ⟨⟨k + 1, by omega, by go_num, by rw [HS.out]; go_num⟩, by simp [intOf]; omega⟩
        · obtain rfl : k = L := by omega
          have hall : xs.take k = xs := List.take_of_length_le (by rw [HL.out]; omega)
          rw [hall]
          clear hall
          generalize hT : (flat xs).length = T at *
          have HT := Lib.hid hT
          clear hT
          go_wp2_with fail
          refine (bldGrow0 w.heap.size T _ (heap_alloc_new w _) (by omega)).mono ?_
          rintro e w1 ⟨rfl, hB1, hb1⟩
          have hb1' : Below w.heap.size w w1 := ((Below.refl w.heap.size w).alloc (Nat.le_refl _) _).trans hb1
          have d0 : w1.cell? ⟨b, off, none⟩ = some (.string xs[0]) := by rw [hb1'.cell (p := ⟨b, off, none⟩) hbw]; exact c0
          have hx0 : flat (xs.take 1) = bl xs[0] := by have := flat_take xs 0 (by rw [HL.out]; omega); simpa [flat] using this
          have hz0 : xs[0].size ≤ 1099511627776 := by have := HLe.out 1; rw [hx0, size_bl] at this; omega
          have HX0 := Lib.hid hx0
          have Hb1 := Lib.hid hb1'
          clear hb1 hb1' hx0 c0
          go_wp2_with fail
          refine (bldWrite w.heap.size [] xs[0] w1 hB1 (by simp; omega)).mono ?_
          rintro e w2 ⟨rfl, hB2, hb2⟩
          rw [List.nil_append, ← HX0.out] at hB2
          have Hb2 := Lib.hid (Hb1.out.trans hb2)
          clear hb2 hB1
          go_wp2_with fail
          go_loopw [65] (fun i wr => ∃ k : Nat, k + 1 ≤ xs.length ∧ i = .int .i64 k ∧ IsBld w.heap.size (flat (xs.take (k + 1))) wr ∧ Below w.heap.size w wr) (fun i _ => xs.length - (intOf i).toNat)
          case atStart => exact ⟨0, by omega, rfl, hB2, Hb2.out⟩
          case round =>
            obtain ⟨m, hm, rfl, hB, hb⟩ := hrel
            by_cases hlt : m + 1 < k
            · have hmx : m + 1 < xs.length := by rw [HL.out]; exact hlt
              have e1 : wr.cell? ⟨b, off + 1 + m, none⟩ = some (.string xs[m + 1]) := by
                rw [hb.cell (p := ⟨b, off + 1 + m, none⟩) hbw, show off + 1 + m = off + (m + 1) by omega]; exact HC.out (m + 1) hmx
              have hft := flat_take xs (m + 1) hmx
              have hl1 := HLe.out (m + 2)
              rw [hft, List.length_append, size_bl] at hl1
              have HF := Lib.hid hft
              have Hb := Lib.hid hb
              have hl2 : (flat (xs.take (m + 1))).length ≤ 1099511627776 := by omega
              have hl3 : xs[m + 1].size ≤ 1099511627776 := by omega
              have hmi : (m : Int) + 1 < (k : Int) := by omega
              clear hft hl1 hb
              generalize xs[m + 1] = x at *
              go_wp2_with fail
              refine (bldWrite w.heap.size (flat (xs.take (m + 1))) ⟨#[]⟩ wr hB (by show _ + 0 ≤ _; omega)).mono ?_
              rintro e w3 ⟨rfl, hB3, hb3⟩
              rw [show bl (⟨#[]⟩ : ByteArray) = [] from rfl, List.append_nil] at hB3
              have Hb3 := Lib.hid hb3
              clear hb3 hB
              go_wp2_with fail
              refine (bldWrite w.heap.size (flat (xs.take (m + 1))) x w3 hB3 (by omega)).mono ?_
              rintro e w4 ⟨rfl, hB4, hb4⟩
              rw [← HF.out] at hB4
              go_wp2_with fail
              go_roundw
              case rel => exact ⟨m + 1, by omega, by go_num, hB4, (Hb.out.trans Hb3.out).trans hb4⟩
              case measure => simp [intOf]; omega
            · have hmk : m + 1 = k := by have := HL.out; omega
              have hall : xs.take (m + 1) = xs := List.take_of_length_le (by rw [HL.out]; omega)
              rw [hall] at hB
              have hmi : ¬ (m : Int) + 1 < (k : Int) := by omega
              have Hb := Lib.hid hb
              clear hall hb
              go_wp2_with fail
              refine (bldString w.heap.size (flat xs) wr hB).mono ?_
              rintro e w5 ⟨rfl, hb5⟩
              go_wp2_with fail
              go_ret
              exact ⟨rfl, Hb.out.trans hb5⟩
end Go.Proofs.Ytbbfbeacgnimpaa
