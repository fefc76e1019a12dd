/-
  The law: a block that was stored is not missing, all others are as before.
-/
import Derived.Test.YtbbfbeacgnimpaaFirW
open Go Go.RowKit Go.Proofs
namespace Go.Proofs.Ytbbfbeacgnimpaa
namespace Hub
theorem IntsAt.get {lo N : Nat} {w : World} {a : Option Addr} {n cap : Nat} {l : List Int} (h : IntsAt lo N w (.slice a n cap) l) (k : Nat) (hk : k < l.length) : ∃ bk off, a = some ⟨bk, off, Option.none⟩ ∧ bk < N ∧ w.cell? ⟨bk, off + k, Option.none⟩ = some (.int .i64 l[k]) := by
  obtain ⟨a', cap', e, hc⟩ := h
  simp only [Value.slice.injEq] at e
  obtain ⟨rfl, -, -⟩ := e
  obtain ⟨bk, off, rfl, _, hbN, hcell⟩ := hc (by intro e; rw [e] at hk; simp at hk)
  exact ⟨bk, off, rfl, hbN, hcell k hk⟩
def storedL (l : List Int) (i : Int) : Bool := !l.contains i
theorem storedL_no {l : List Int} {i : Int} (h : i ∈ l) : storedL l i = false := by simp [storedL, h]
theorem storedL_yes {l : List Int} {i : Int} (h : ∀ x ∈ l, x ≠ i) : storedL l i = true := by
  simp only [storedL, Bool.not_eq_true', List.contains_eq_mem, decide_eq_false_iff_not]
  exact fun hm => h i hm rfl
theorem set_getD {α : Type} (l : List α) (i j : Nat) (x z : α) (hi : i < l.length) : (l.set i x).getD j z = if i = j then x else l.getD j z := by
  rw [List.getD_eq_getElem?_getD, List.getD_eq_getElem?_getD, List.getElem?_set]
  by_cases h : i = j
  · rw [if_pos h, if_pos hi, if_pos h]; rfl
  · rw [if_neg h, if_neg h]
theorem miss_set_self {n : Nat} {H : List Bool} {i : Nat} (hH : H.length = n) (hi : i < n) : storedL (missN n (H.set i true) n) (i : Int) = true := by
  refine storedL_yes fun x hx e => ?_
  obtain ⟨j, hj, e2, hno⟩ := (missN_mem _ _ _ _).1 hx
  have hij : i = j := by omega
  refine hno ⟨by rw [List.length_set]; exact hH, ?_⟩
  rw [set_getD _ _ _ _ _ (by omega), if_pos hij]
theorem miss_set_other {n : Nat} {H : List Bool} {i m : Nat} (hH : H.length = n) (hi : i < n) (hmi : m ≠ i) : storedL (missN n (H.set i true) n) (m : Int) = storedL (missN n H n) (m : Int) := by
  have h : (m : Int) ∈ missN n (H.set i true) n ↔ (m : Int) ∈ missN n H n := by
    rw [missN_mem, missN_mem]
    constructor
    · rintro ⟨j, hj, e, hno⟩
      refine ⟨j, hj, e, fun hc => hno ⟨by rw [List.length_set]; exact hH, ?_⟩⟩
      rw [set_getD _ _ _ _ _ (by omega), if_neg (by omega)]; exact hc.2
    · rintro ⟨j, hj, e, hno⟩
      refine ⟨j, hj, e, fun hc => hno ⟨hH, ?_⟩⟩
      have := hc.2
      rw [set_getD _ _ _ _ _ (by omega), if_neg (by omega)] at this; exact this
  by_cases hm : (m : Int) ∈ missN n H n
  · rw [storedL_no (h.2 hm), storedL_no hm]
  · rw [storedL_yes (fun x hx e => hm (h.1 (by rw [← e]; exact hx))), storedL_yes (fun x hx e => hm (by rw [← e]; exact hx))]
abbrev Ls (Mb Ma : List Int) : List (Nat × (Value → World → Prop)) := [(100, fInts Mb), (104, fInts Ma), (6, fInts Mb), (7, fInts Ma)]
theorem lastsS (Mb Ma : List Int) : Late.Lasts (Ls Mb Ma) := by
  intro d F hF
  simp only [Ls, List.mem_cons, Prod.mk.injEq, List.not_mem_nil, or_false] at hF
  rcases hF with ⟨_, rfl⟩ | ⟨_, rfl⟩ | ⟨_, rfl⟩ | ⟨_, rfl⟩ <;> exact fun v w w' h hb => fInts_last h hb
end Hub
open Hub

theorem law_stored_any (v : Value) (l : List Int) (i : Int) (lo N : Nat) (w : World) (hv : IntsAt lo N w v l) (hl : l.length ≤ 1099511627776) :
    Calls Try.prog 34 #[v, .int .i64 i] w fun e w' => e = .returned (.bool (storedL l i)) ∧ w = w' := by
  have HV := Lib.hid hv
  obtain ⟨a, cap, rfl, -⟩ := hv
  have HNo := Lib.hid (fun k (hk : k < l.length) (e : l[k] = i) => storedL_no (l := l) (i := i) (e ▸ List.getElem_mem hk))
  have HYes := Lib.hid (fun (h : ∀ x ∈ l, x ≠ i) => storedL_yes (l := l) (i := i) h)
  obtain ⟨n, hn⟩ : ∃ n, l.length = n := ⟨_, rfl⟩
  have Hn := Lib.hid hn
  rw [hn] at HV hl ⊢
  clear hn
  generalize storedL l i = R at *
  go_enter Try.func34, Try.ntmps34
  go_wp2
  go_loop [5] (fun q => ∃ k : Nat, k ≤ n ∧ q = .int .i64 k ∧ ∀ j (hj : j < l.length), j < k → l[j] ≠ i) (fun q => n - (intOf q).toNat)
  case atStart => exact ⟨0, Nat.zero_le _, rfl, fun j _ h => by omega⟩
  case round =>
    obtain ⟨k, hk, rfl, hall⟩ := hrel
    by_cases hlt : k < n
    · have hkl : k < l.length := by rw [Hn.out]; exact hlt
      have hki : (k : Int) < (n : Int) := by omega
      obtain ⟨bk, off, rfl, hbk, hcl⟩ := HV.out.get k hkl
      have HA := Lib.hid (fun (e : l[k] ≠ i) j (hj : j < l.length) (hjk : j < k + 1) => (show l[j] ≠ i from by
        by_cases e2 : j = k
        · subst e2; exact e
        · exact hall j hj (by omega)))
      have HY := Lib.hid (show l[k] = i → R = false from fun e => HNo.out k hkl e)
      clear hall
      generalize l[k] = y at *
      by_cases he : y = i
      · have heb : (y == i) = true := by simpa using he
        have hR := HY.out he
        subst hR
        clear HA HY he
        go_wp2
        go_ret
        exact ⟨rfl, rfl⟩
      · have heb : (y == i) = false := by simpa using he
        have HA2 := Lib.hid (HA.out he)
        clear HA HY he
        go_wp2
        exact ⟨⟨k + 1, by omega, by go_num, HA2.out⟩, by simp [intOf]; omega⟩
    · have hki : ¬ (k : Int) < (n : Int) := by omega
      have hR : R = true := HYes.out (fun x hx => by
        obtain ⟨j, hj, rfl⟩ := List.getElem_of_mem hx
        exact hall j hj (by have := Hn.out; omega))
      subst hR
      clear hall
      go_wp2
      go_ret
      exact ⟨rfl, rfl⟩

end Go.Proofs.Ytbbfbeacgnimpaa
