/-
  The walk of the reading of a number, the reference's.
-/
import Derived.Test.YtbbfbeacgnimpaaWirG
open Go Go.RowKit Go.Proofs
namespace Go.Proofs.Ytbbfbeacgnimpaa
namespace Hub
section
variable (L : List UInt8) (z k : Nat) (c : UInt8) (hc : L.drop k = c :: L.drop (k + 1)) (hv : vi 0 0 L = vi k z (L.drop k))
include hc hv
theorem vl_bad (h : (0 < k ∧ c.toNat = 0) ∨ (k = 9 ∧ 1 < c.toNat)) : (vi 0 0 L).1 = 4 := by
  rw [hv, hc, vi_cons, if_pos h]
theorem vl_end (h : ¬ ((0 < k ∧ c.toNat = 0) ∨ (k = 9 ∧ 1 < c.toNat))) (h7 : c.toNat < 128) : vi 0 0 L = (0, z + c.toNat % 128 * 128 ^ k, L.drop (k + 1)) := by
  have e : c.toNat % 128 = c.toNat := by omega
  rw [hv, hc, vi_cons, if_neg h, if_pos h7, e]
theorem vl_go (h : ¬ ((0 < k ∧ c.toNat = 0) ∨ (k = 9 ∧ 1 < c.toNat))) (h7 : 128 ≤ c.toNat) (hz : z < 128 ^ k) : z + c.toNat % 128 * 128 ^ k < 128 ^ (k + 1) ∧ vi 0 0 L = vi (k + 1) (z + c.toNat % 128 * 128 ^ k) (L.drop (k + 1)) := by
  have hc' := c.toNat_lt
  have e : c.toNat % 128 = c.toNat - 128 := by omega
  refine ⟨?_, ?_⟩
  · have h1 : c.toNat % 128 * 128 ^ k ≤ 127 * 128 ^ k := Nat.mul_le_mul_right _ (by omega)
    rw [Nat.pow_succ]; omega
  · rw [hv, hc, vi_cons, if_neg h, if_neg (by omega), e]
end
theorem vi_ref (z : Int) (c : UInt8) (k : Nat) (hz0 : 0 ≤ z) (hz : z.toNat < 128 ^ k) (hk : k ≤ 9) (hc : k = 9 → c.toNat ≤ 1) :
    bits .or .u64 z (IntKind.u64.wrap ((c.toNat : Int) % 128 * 2 ^ (7 * k))) = ((z.toNat + c.toNat % 128 * 128 ^ k : Nat) : Int) := by
  have h := vi_or z c k hz0 hz hk hc
  rw [u8_and127, IntWalk.u64_in ((c.toNat % 128 : Nat) : Int) ⟨by omega, by omega⟩] at h
  rw [← h]; rfl
theorem vi_ref9 (z : Int) (c : UInt8) (hz0 : 0 ≤ z) (hz : z.toNat < 128 ^ 9) (hc : c.toNat ≤ 1) :
    bits .or .u64 z ((c.toNat : Int) % 128 * 9223372036854775808) = ((z.toNat + c.toNat % 128 * 128 ^ 9 : Nat) : Int) := by
  have h := vi_ref z c 9 hz0 hz (Nat.le_refl _) (fun _ => hc)
  rw [show (2 : Int) ^ (7 * 9) = 9223372036854775808 from rfl, IntWalk.u64_in _ ⟨by omega, by omega⟩] at h
  exact h
theorem vi_ref0 (z : Int) (c : UInt8) (hz0 : 0 ≤ z) (hz : z.toNat < 128 ^ 0) :
    bits .or .u64 z ((c.toNat : Int) % 128) = ((z.toNat + c.toNat % 128 * 128 ^ 0 : Nat) : Int) := by
  have h := vi_ref z c 0 hz0 hz (Nat.zero_le _) (fun h => by omega)
  rw [show (2 : Int) ^ (7 * 0) = 1 from rfl, Int.mul_one, IntWalk.u64_in _ ⟨by omega, by omega⟩] at h
  exact h
theorem unzig_yes (X : Int) (m : Nat) (h : X = m) (hm : m < 18446744073709551616) (hp : (X.tmod 2 == 1) = true) : wrap64 (-1 - wrap64 (X / 2)) = unzig m := by
  subst h
  have h1 : m % 2 = 1 := by rw [Int.tmod_eq_emod_of_nonneg (by omega)] at hp; simp at hp; omega
  rw [IntWalk.wrap64_in ((m : Int) / 2) ⟨by omega, by omega⟩, IntWalk.wrap64_in _ ⟨by omega, by omega⟩, unzig, if_pos h1]; omega
theorem unzig_no (X : Int) (m : Nat) (h : X = m) (hm : m < 18446744073709551616) (hp : (X.tmod 2 == 1) = false) : wrap64 (X / 2) = unzig m := by
  subst h
  have h1 : ¬ m % 2 = 1 := by rw [Int.tmod_eq_emod_of_nonneg (by omega)] at hp; simp at hp; omega
  rw [IntWalk.wrap64_in ((m : Int) / 2) ⟨by omega, by omega⟩, unzig, if_neg h1]; omega
theorem RdRp.byte {B : Nat} {S : ByteArray} {p : Nat} {r : Rs} {w : World} (h : RdRp B S p r w) (k : Nat) (hk : p + k < S.size) : r.rest.drop k = S[p + k] :: r.rest.drop (k + 1) := by
  rw [h.2.2.1, List.drop_drop, List.drop_drop, getElem_bl S (p + k) hk, ← Nat.add_assoc]
  exact List.drop_eq_getElem_cons _
theorem RdRp.goes {B : Nat} {S : ByteArray} {p : Nat} {r : Rs} {w : World} (h : RdRp B S p r w) (he : r.err = 0) (k : Nat) (hk : p + k ≤ S.size) (x : Int) (hx : x = (p : Int) + k) : RdR B S ⟨r.rest.drop k, 0⟩ (w.setCell ⟨B, 1, none⟩ (.int .i64 x)) := by
  have := h.set1 (p + k) hk
  rw [he] at this
  refine ⟨p + k, ?_⟩
  rw [h.2.2.1, List.drop_drop, show x = ((p + k : Nat) : Int) from by omega]
  exact this
end Hub
open Hub

set_option maxRecDepth 20000 in
set_option maxHeartbeats 2000000 in
theorem xInt_any (B : Nat) (S : ByteArray) (r : Rs) (w : World) (h : RdR B S r w) :
    Calls Try.prog 44 #[.pointer (some ⟨B, 0, none⟩)] w fun e w' => e = .returned (.int .i64 (rInt r).1) ∧ RdR B S (rInt r).2 w' ∧ Tch B w w' := by
  have h' := h
  obtain ⟨p, hp⟩ := h
  obtain ⟨_, hpS, hrest, hS⟩ := id hp
  by_cases he : r.err = 0
  · have heb : (r.err != 0) = false := by simpa using he
    have hri : rInt r = if (vi 0 0 r.rest).1 ≠ 0 then (0, { r with err := (vi 0 0 r.rest).1 }) else (unzig (vi 0 0 r.rest).2.1, { rest := (vi 0 0 r.rest).2.2, err := 0 }) := by rw [rInt, if_neg (by omega)]
    have HRI := Lib.hid hri
    have HE := Lib.hid he
    have HR := Lib.hid hrest
    clear hri he hrest
    generalize rInt r = o at *
    go_enter Try.func44, Try.ntmps44
    go_wp2_with (go_at_call 63; refine (xErr_any B S r _ h').mono ?_; rintro e w1 ⟨rfl, rfl⟩)
    go_loopw [3, 4] (fun u i wr => ∃ (k : Nat) (z : Int), k ≤ 9 ∧ p + k ≤ S.size ∧ i = .int .i64 k ∧ u = .int .u64 z ∧ 0 ≤ z ∧ z.toNat < 128 ^ k ∧ vi 0 0 r.rest = vi k z.toNat (r.rest.drop k) ∧ RdRp B S p r wr ∧ Tch B w wr) (fun _ i _ => 10 - (intOf i).toNat)
    case atStart => exact ⟨0, 0, by omega, by omega, rfl, rfl, by omega, by simp, rfl, hp, Tch.refl _ _⟩
    case round =>
      obtain ⟨k, z, hk9, hk, rfl, rfl, hz0, hz, hv, hrd, ht⟩ := hrel
      have h0 := hrd.c0
      have h1 := hrd.c1
      have h2 := hrd.c2
      have hf1 := hrd.f 1
      have hf2 := hrd.f 2
      have hk10 : (k : Int) < 10 := by omega
      by_cases hlt : p + k < S.size
      · have hli : (p : Int) + k < S.size := by omega
        have hwr : IntKind.i64.wrap ((p : Int) + k) = (p : Int) + k := IntWalk.i64_in _ ⟨by omega, by omega⟩
        have hi0 : (0 : Int) ≤ (p : Int) + k := by omega
        have hc := hrd.byte k hlt
        have HBad := Lib.hid (vl_bad r.rest z.toNat k S[p + k] hc hv)
        have HEnd := Lib.hid (vl_end r.rest z.toNat k S[p + k] hc hv)
        have HGo := Lib.hid (vl_go r.rest z.toNat k S[p + k] hc hv)
        have HOr1 := Lib.hid (vi_ref z S[p + k] k hz0 hz hk9)
        have HLt1 := Lib.hid (vi_val_lt z.toNat S[p + k] k hz hk9)
        have HZ := Lib.hid hz
        clear hz hv hc
        by_cases hbad : (0 < k ∧ S[p + k].toNat = 0) ∨ (k = 9 ∧ 1 < S[p + k].toNat)
        · have hB := HBad.out hbad
          have hO : o = (0, { r with err := 4 }) := by rw [HRI.out, if_pos (by omega), hB]
          have HO := Lib.hid hO
          have hs := hrd.set2 4
          clear HBad HEnd HGo hB hO HLt1 HOr1
          have hd : (0 < k ∧ S[p + k].toNat = 0) ∨ (k = 9 ∧ ¬ S[p + k].toNat = 0 ∧ 1 < S[p + k].toNat) := by omega
          clear hbad
          rcases hd with ⟨h3, h4⟩ | ⟨h3, h4, h5⟩
          · go_wp2_with fail
            go_quiet (fail)
            go_wp2_with fail
            go_quiet (fail)
            go_wp2_with fail
            all_goals first | (exfalso; omega) | (go_ret; exact ⟨by rw [HO.out]; rfl, by rw [HO.out]; exact ⟨p, hs⟩, (ht.drewN _).setCell 2 _⟩)
          · subst h3
            have hwr9 : IntKind.i64.wrap ((p : Int) + 9) = (p : Int) + 9 := hwr
            have hi9 : (0 : Int) ≤ (p : Int) + 9 := hi0
            have hl9 : (p : Int) + 9 < S.size := hli
            have h6 : (1 : Int) < (S[p + 9].toNat : Int) := by omega
            go_wp2_with fail
            go_quiet (fail)
            go_wp2_with fail
            go_quiet (fail)
            go_wp2_with fail
            all_goals first | (exfalso; omega) | (go_ret; exact ⟨by rw [HO.out]; rfl, by rw [HO.out]; exact ⟨p, hs⟩, (ht.drewN _).setCell 2 _⟩)
        · have HOr := Lib.hid (HOr1.out (by omega))
          have HLt := Lib.hid (HLt1.out (by omega))
          have h1' : k = 0 ∨ (0 < k ∧ ¬ S[p + k].toNat = 0) := by omega
          have HEn := Lib.hid (HEnd.out hbad)
          have HG := Lib.hid (HGo.out hbad)
          have hn : k = 9 → S[p + k].toNat ≤ 1 := by omega
          clear HBad HEnd HGo HOr1 HLt1 hbad
          by_cases h7 : S[p + k].toNat < 128
          · have hE2 := HEn.out h7
            have hO : o = (unzig (z.toNat + S[p + k].toNat % 128 * 128 ^ k), ⟨r.rest.drop (k + 1), 0⟩) := by rw [HRI.out, hE2]; rfl
            have HO := Lib.hid hO
            have HW := Lib.hid (hrd.goes HE.out (k + 1) (by omega))
            have h7i : (S[p + k].toNat : Int) < 128 := by omega
            clear HEn HG hE2 hO
            by_cases h9 : k = 9
            · have h1'' := hn h9
              subst h9
              have hwr9 : IntKind.i64.wrap ((p : Int) + 9) = (p : Int) + 9 := hwr
              have hi9 : (0 : Int) ≤ (p : Int) + 9 := hi0
              have hl9 : (p : Int) + 9 < S.size := hli
              have h2' : ¬ S[p + 9].toNat = 0 := by omega
              have h3' : (S[p + 9].toNat : Int) ≤ 1 := by omega
              clear h1' hn
              have HOr9 := Lib.hid (vi_ref9 z S[p + 9] hz0 HZ.out h1'')
              clear h1''
              go_wp2_with fail
              go_quiet (fail)
              go_wp2_with fail
              go_quiet (fail)
              go_wp2_with fail
              all_goals first | (exfalso; omega) | (exfalso; rename_i hx; simp at hx; omega) | (go_ret; rename_i hpar; rw [HO.out]; first | (rw [unzig_yes _ _ HOr9.out HLt.out hpar]; exact ⟨rfl, HW.out _ (by omega), (ht.drewN _).setCell 1 _⟩) | (rw [unzig_no _ _ HOr9.out HLt.out hpar]; exact ⟨rfl, HW.out _ (by omega), (ht.drewN _).setCell 1 _⟩))
            · clear hn
              rcases h1' with h3 | ⟨h3, h4⟩
              · have h4 : ¬ (0 : Int) < (k : Int) := by omega
                have HK := Lib.hid h3
                clear h3
                go_wp2_with fail
                go_quiet (fail)
                go_wp2_with fail
                go_quiet (fail)
                go_wp2_with fail
                all_goals (go_ret; rename_i hpar; rw [HO.out]; first | (rw [unzig_yes _ _ HOr.out HLt.out hpar]; exact ⟨rfl, HW.out _ (by omega), (ht.drewN _).setCell 1 _⟩) | (rw [unzig_no _ _ HOr.out HLt.out hpar]; exact ⟨rfl, HW.out _ (by omega), (ht.drewN _).setCell 1 _⟩))
              · go_wp2_with fail
                go_quiet (fail)
                go_wp2_with fail
                go_quiet (fail)
                go_wp2_with fail
                all_goals (go_ret; rename_i hpar; rw [HO.out]; first | (rw [unzig_yes _ _ HOr.out HLt.out hpar]; exact ⟨rfl, HW.out _ (by omega), (ht.drewN _).setCell 1 _⟩) | (rw [unzig_no _ _ HOr.out HLt.out hpar]; exact ⟨rfl, HW.out _ (by omega), (ht.drewN _).setCell 1 _⟩))
          · have h9 : ¬ k = 9 := by omega
            have h7i : 128 ≤ (S[p + k].toNat : Int) := by omega
            have HG2 := Lib.hid (HG.out (by omega) HZ.out)
            clear HEn HG hn h7
            rcases h1' with h3 | ⟨h3, h4⟩
            · have h4 : ¬ (0 : Int) < (k : Int) := by omega
              have HK := Lib.hid h3
              clear h3
              go_wp2_with fail
              go_quiet (fail)
              go_wp2_with fail
              go_quiet (fail)
              go_wp2_with fail
              rw [HOr.out]
              go_roundw
              case rel => exact ⟨k + 1, _, by omega, by omega, by go_num, rfl, by omega, HG2.out.1, HG2.out.2, hrd, ht.drewN _⟩
              case measure => simp [intOf]; omega
            · go_wp2_with fail
              go_quiet (fail)
              go_wp2_with fail
              go_quiet (fail)
              go_wp2_with fail
              rw [HOr.out]
              go_roundw
              case rel => exact ⟨k + 1, _, by omega, by omega, by go_num, rfl, by omega, HG2.out.1, HG2.out.2, hrd, ht.drewN _⟩
              case measure => simp [intOf]; omega
      · have hli : ¬ (p : Int) + k < S.size := by omega
        have hlen := hrd.len
        have hnil : r.rest.drop k = [] := List.drop_eq_nil_of_le (by omega)
        have hO : o = (0, { r with err := 5 }) := by
          rw [hnil, vi_nil] at hv
          rw [HRI.out, hv]; rfl
        have HO := Lib.hid hO
        have hs := hrd.set2 5
        clear hnil hO hv hlen hz
        go_wp2_with fail
        go_quiet (fail)
        go_wp2_with fail
        go_ret
        exact ⟨by rw [HO.out]; rfl, by rw [HO.out]; exact ⟨p, hs⟩, (ht.drewN _).setCell 2 _⟩
  · have hv : rInt r = (0, r) := by rw [rInt, if_pos he]
    rw [hv]; clear hv
    have heb : (r.err != 0) = true := by simpa using he
    clear he
    go_enter Try.func44, Try.ntmps44
    go_wp2_with (go_at_call 63; refine (xErr_any B S r _ h').mono ?_; rintro e w1 ⟨rfl, rfl⟩)
    go_ret
    exact ⟨rfl, h', Tch.refl _ _⟩
end Go.Proofs.Ytbbfbeacgnimpaa
