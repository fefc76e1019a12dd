/-
  The walks of the encodings of strings, booleans and lists, the program's and the reference's.
-/
import Derived.Test.YtnglepapodncbaaWirA
import Derived.Test.YtnglepapodncbaaBld
open Go Go.RowKit Go.Proofs
namespace Go.Proofs.Ytnglepapodncbaa
namespace Hub
/-- The slice v holds the numbers l, in a block from lo on, below N. -/
def IntsAt (lo N : Nat) (w : World) (v : Value) (l : List Int) : Prop :=
  ∃ a cap, v = .slice a l.length cap ∧ (l ≠ [] → ∃ b off, a = some ⟨b, off, none⟩ ∧ lo ≤ b ∧ b < N ∧ ∀ i (h : i < l.length), w.cell? ⟨b, off + i, none⟩ = some (.int .i64 l[i]))
theorem IntsAt.below {lo N M : Nat} {w w' : World} {v : Value} {l : List Int} (h : IntsAt lo N w v l) (hb : Below M w w') (hN : N ≤ M) : IntsAt lo N w' v l := by
  obtain ⟨a, cap, hv, hc⟩ := h
  refine ⟨a, cap, hv, fun hne => ?_⟩
  obtain ⟨b, off, ha, hlo, hbN, hcell⟩ := hc hne
  exact ⟨b, off, ha, hlo, hbN, fun i hi => by rw [hb.cell (p := ⟨b, off + i, none⟩) (by show b < M; omega)]; exact hcell i hi⟩
def IntB (l : List Int) : Prop := ∀ x ∈ l, -9223372036854775808 ≤ x ∧ x ≤ 9223372036854775807
theorem IntB.get {l : List Int} (h : IntB l) {i : Nat} (hi : i < l.length) : -9223372036854775808 ≤ l[i] ∧ l[i] ≤ 9223372036854775807 := h _ (List.getElem_mem hi)
theorem encs_length (l : List Int) (h : IntB l) : (l.flatMap enc).length ≤ 10 * l.length := by
  induction l with
  | nil => simp
  | cons a l ih =>
    rw [List.flatMap_cons, List.length_append, List.length_cons]
    have h1 := enc_length a (h a (by simp)).1 (h a (by simp)).2
    have h2 := ih (fun x hx => h x (by simp [hx]))
    omega
theorem encs_take (l : List Int) (k : Nat) (h : k < l.length) : (l.take (k + 1)).flatMap enc = (l.take k).flatMap enc ++ enc l[k] := by
  rw [List.take_succ_eq_append_getElem h, List.flatMap_append]; simp
theorem encs_take_length (l : List Int) (k : Nat) (hb : IntB l) : ((l.take k).flatMap enc).length ≤ 10 * l.length := by
  have h1 := encs_length (l.take k) (fun x hx => hb x (List.mem_of_mem_take hx))
  have h2 : (l.take k).length ≤ l.length := by simp; omega
  omega
end Hub
open Hub

theorem wText_any (s : ByteArray) (w : World) (hs : s.size ≤ 1099511627776) :
    Calls Try.prog 37 #[.string s] w fun e w' => e = .returned (.string (mk (encT (bl s)))) ∧ Below w.heap.size w w' := by
  have HI := Lib.hid (fun w => wInt_any (s.size : Int) w (by omega) (by omega))
  have hl := enc_length (s.size : Int) (by omega) (by omega)
  have hsz : (mk (enc (s.size : Int))).size = (enc (s.size : Int)).length := rfl
  have he : mk (enc (s.size : Int)) ++ s = mk (encT (bl s)) := by
    apply bl_inj; rw [bl_append, bl_mk, bl_mk, encT, size_bl]
  have HE := Lib.hid he
  clear he
  generalize mk (enc (s.size : Int)) = K at *
  go_enter Try.func37, Try.ntmps37
  go_wp2_with fail
  refine (HI.out _).mono ?_
  rintro e w1 ⟨rfl, hb⟩
  go_wp2_with fail
  go_ret
  exact ⟨ret_str HE.out, hb⟩

theorem refText_any (s : ByteArray) (w : World) (hs : s.size ≤ 1099511627776) :
    Calls Try.prog 39 #[.string s] w fun e w' => e = .returned (.string (mk (encT (bl s)))) ∧ Below w.heap.size w w' := by
  have HI := Lib.hid (fun w => refInt_any (s.size : Int) w (by omega) (by omega))
  have hl := enc_length (s.size : Int) (by omega) (by omega)
  have hsz : (mk (enc (s.size : Int))).size = (enc (s.size : Int)).length := rfl
  have he : mk (enc (s.size : Int)) ++ s = mk (encT (bl s)) := by
    apply bl_inj; rw [bl_append, bl_mk, bl_mk, encT, size_bl]
  have HE := Lib.hid he
  clear he
  generalize mk (enc (s.size : Int)) = K at *
  go_enter Try.func39, Try.ntmps39
  go_wp2_with fail
  refine (HI.out _).mono ?_
  rintro e w1 ⟨rfl, hb⟩
  go_wp2_with fail
  go_ret
  exact ⟨ret_str HE.out, hb⟩

end Go.Proofs.Ytnglepapodncbaa
