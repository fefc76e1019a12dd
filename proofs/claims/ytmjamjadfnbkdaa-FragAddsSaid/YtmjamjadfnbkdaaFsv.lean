/-
  Fragments: the law on Expire, at an argument opened.
-/
import Derived.Test.YtmjamjadfnbkdaaFsu
import Derived.Test.YtmjamjadfnbkdaaFsq
open Go Go.RowKit Go.Proofs
namespace Go.Proofs.Ytmjamjadfnbkdaa
open Hub
theorem lawExpiresB (v : Value) (l : List Pt) (now life : Int) (w : World) (hv : PtsAt 0 w.heap.size w v l) (_h0 : -9223372036854775808 ≤ now) (_h1 : now ≤ 9223372036854775807) (_h2 : -9223372036854775808 ≤ life) (_h3 : life ≤ 9223372036854775807) :
    Calls Try.prog 9 #[v, .int .i64 now, .int .i64 life] w fun e w' => e = .returned (.bool true) ∧ Below w.heap.size w w' := lawExpires v l now life w hv
end Go.Proofs.Ytmjamjadfnbkdaa
