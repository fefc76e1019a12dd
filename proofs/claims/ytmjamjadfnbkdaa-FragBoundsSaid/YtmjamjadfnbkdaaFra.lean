/-
  Fragments: the plain model (entries of messages under way, what checks, splits and adds pieces).
-/
import Derived.Test.YtmjamjadfnbkdaaBas
import Derived.Deep.AppendLies
import Derived.Deep.RegionLaw
import Derived.Deep.LoopGhost
import Derived.Laws.CopyOwn
import Derived.Deep.OwnRows
open Go Go.RowKit Go.Proofs
namespace Go.Proofs.Ytmjamjadfnbkdaa
namespace Hub
theorem Below.drewN' {N : Nat} {w w' : World} (h : Below N w w') (n : Nat) : Below N w (w'.drewN n) := ⟨h.os, h.tape, h.output, h.size, h.block⟩
theorem Below.drew' {N : Nat} {w w' : World} (h : Below N w w') : Below N w w'.drew := ⟨h.os, h.tape, h.output, h.size, h.block⟩
theorem below_box (w : World) (o : Obj) : Below w.heap.size w (w.alloc o) := (Below.refl _ _).alloc (Nat.le_refl _) _
/-- An entry, as data. -/
structure Pk where
  src : Int
  id : Int
  cnt : Int
  since : Int
  hv : List Bool
  dt : List ByteArray
theorem Pk.ext' {p q : Pk} (h1 : p.src = q.src) (h2 : p.id = q.id) (h3 : p.cnt = q.cnt) (h4 : p.since = q.since) (h5 : p.hv = q.hv) (h6 : p.dt = q.dt) : p = q := by
  cases p; cases q; simp_all
/-- The n-th byte of a string. -/
def byI (s : ByteArray) (n : Nat) : Int := (((bl s).getD n 0).toNat : Int)
theorem byI_lo (s : ByteArray) (n : Nat) : 0 ≤ byI s n := Int.natCast_nonneg _
theorem byI_hi (s : ByteArray) (n : Nat) : byI s n ≤ 255 := by
  have := ((bl s).getD n 0).toNat_lt
  unfold byI; omega
theorem byI_at (s : ByteArray) (n : Nat) (h : n < s.size) : (s[n].toNat : Int) = byI s n := by
  unfold byI
  rw [List.getD_eq_getElem?_getD, List.getElem?_eq_getElem (by rw [size_bl]; exact h)]
  rfl
def fitsF (i c n : Int) : Bool :=
  if i = c - 1 then
    if c = 1 then decide (n ≤ 64) else if c = 16 then decide (1 ≤ n) && decide (n ≤ 40) else decide (1 ≤ n) && decide (n ≤ 64)
  else decide (n = 64)
def limF (n : Int) : Int := min (max n 0) 1099511627776
theorem limF_lo (n : Int) : 0 ≤ limF n := by unfold limF; omega
theorem limF_hi (n : Int) : limF n ≤ 1099511627776 := by unfold limF; omega
def chkF (s : ByteArray) : Int :=
  if s.size < 3 then 5
  else if byI s 2 < 1 ∨ 16 < byI s 2 ∨ byI s 2 ≤ byI s 1 ∨ fitsF (byI s 1) (byI s 2) ((s.size : Int) - 3) = false then 4 else 0
/-- How many have arrived of the first n. -/
def arrF (l : List Bool) : Nat := l.count true
def entOk (i : Nat) (c : Int) (h : Bool) (d : ByteArray) : Bool := if h then fitsF i c d.size else decide (d.size = 0)
def headOk (p : Pk) : Bool := decide (0 ≤ p.id ∧ p.id ≤ 255 ∧ 2 ≤ p.cnt ∧ p.cnt ≤ 16 ∧ 0 ≤ p.since ∧ p.since ≤ 1099511627776 ∧ (p.hv.length : Int) = p.cnt ∧ (p.dt.length : Int) = p.cnt)
def bodyOk (p : Pk) : Prop := ∀ i, i < p.hv.length → entOk i p.cnt (p.hv.getD i false) (p.dt.getD i ByteArray.empty) = true
instance (p : Pk) : Decidable (bodyOk p) := by unfold bodyOk; infer_instance
def validF (p : Pk) : Bool := headOk p && decide (bodyOk p) && decide (0 < arrF p.hv) && decide ((arrF p.hv : Int) < p.cnt)
def keyIs (s i : Int) (p : Pk) : Bool := p.src == s && p.id == i
/-- The index of the entry with a source and an identifier, or -1. -/
def findF (l : List Pk) (s i : Int) : Int := match l.findIdx? (keyIs s i) with | some k => k | none => -1
def orderStep (out : List Pk) (p : Pk) : List Pk := if validF p = true ∧ findF out p.src p.id < 0 then out ++ [p] else out
def orderAll (l : List Pk) : List Pk := l.foldl orderStep []
def orderF (l : List Pk) : List Pk := (orderAll l).drop ((orderAll l).length - 8)
def setF (p : Pk) (i : Nat) (d : ByteArray) : Pk := if p.hv.getD i false = true then p else { p with hv := p.hv.set i true, dt := p.dt.set i d }
def wholeP (p : Pk) : Bool := p.hv.all id
def joinP (p : Pk) : ByteArray := mk (p.dt.flatMap bl)
def finF (l : List Pk) (k i : Nat) (d : ByteArray) : List Pk × ByteArray × Bool :=
  match l[k]? with
  | none => (l, ByteArray.empty, false)
  | some p => if wholeP (setF p i d) = true then (l.eraseIdx k, joinP (setF p i d), true) else (l.set k (setF p i d), ByteArray.empty, false)
def newP (src id cnt now : Int) : Pk := ⟨src, id, cnt, limF now, List.replicate cnt.toNat false, List.replicate cnt.toNat ByteArray.empty⟩
def room (l : List Pk) : List Pk := if l.length = 8 then l.eraseIdx 0 else l
/-- The list without an entry of the same message whose count is another. -/
def stage (l : List Pk) (src id c : Int) : List Pk × Int :=
  if 0 ≤ findF l src id ∧ ((l.map Pk.cnt).getD (findF l src id).toNat 0) ≠ c then (l.eraseIdx (findF l src id).toNat, -1) else (l, findF l src id)
def goF (l : List Pk) (at' : Int) (src id c now : Int) (i : Nat) (d : ByteArray) : List Pk × ByteArray × Bool :=
  if at' < 0 then finF (room l ++ [newP src id c now]) (room l).length i d else finF l at'.toNat i d
def addF (l : List Pk) (src now : Int) (s : ByteArray) : (List Pk × ByteArray × Bool) × Int :=
  if chkF s ≠ 0 then (([], ByteArray.empty, false), chkF s)
  else
    let st := stage (orderF l) src (byI s 0) (byI s 2)
    if byI s 2 = 1 then ((st.1, s.extract 3 s.size, true), 0)
    else (goF st.1 st.2 src (byI s 0) (byI s 2) now (byI s 1).toNat (s.extract 3 s.size), 0)
def expireF (l : List Pk) (now life : Int) : List Pk := (orderF l).filter fun p => decide (limF now - p.since ≤ limF life)
end Hub
end Go.Proofs.Ytmjamjadfnbkdaa
