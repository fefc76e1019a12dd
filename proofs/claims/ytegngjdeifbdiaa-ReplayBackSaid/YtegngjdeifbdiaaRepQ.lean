/-
  What was sealed is opened: the plain law.
-/
import Derived.Test.YtegngjdeifbdiaaRepP
import Derived.Test.YtegngjdeifbdiaaWirQ
open Go Go.RowKit Go.Proofs
namespace Go.Proofs.Ytegngjdeifbdiaa
namespace Hub
theorem openD_sealD (key : Nat) (m : List UInt8) : openD key (sealD key m) = (m, 0) := by
  have hq : (sum4 (mac key m)).length = 4 := rfl
  have h1 : (m ++ sum4 (mac key m)).length - 4 = m.length := by rw [List.length_append, hq]; omega
  rw [sealD, openD, if_neg (by rw [List.length_append, hq]; omega), h1, List.drop_left, List.take_left, if_pos rfl]
theorem open_msg (key : Nat) (node n node' t b : Int) (s : List UInt8) (h : inRng node n) (hs : s.length ≤ 1000) :
    openR key node' t b (sealD key (msg node n s)) = if ¬ (node = node' ∧ inRng node' n) then ([], (t, b), 2) else if (acc t b n).2.2 = false then ([], (t, b), 18) else (s, ((acc t b n).1, (acc t b n).2.1), 0) := by
  obtain ⟨⟨h0, h1⟩, h2, h3⟩ := h
  have e1 : rd1 (msg node n s) = (node, ⟨enc n ++ encT s, 0⟩) := by
    rw [rd1, msg, List.append_assoc, rInt_enc node _ (by omega) (by omega)]
  have e2 : rd2 (msg node n s) = (n, ⟨encT s, 0⟩) := by
    rw [rd2, e1, rInt_enc n _ (by omega) (by omega)]
  have e3 : rd3 (msg node n s) = (s, ⟨[], 0⟩) := by
    have := rText_enc s [] 1000 (by omega) (by omega)
    rw [List.append_nil] at this
    rw [rd3, e2, this]
  rw [openR, openD_sealD, if_neg (by simp)]
  simp only [e1, e2, e3]
  rw [show rEnd ⟨[], 0⟩ = 0 from rfl, if_neg (by simp)]
end Hub
end Go.Proofs.Ytegngjdeifbdiaa
