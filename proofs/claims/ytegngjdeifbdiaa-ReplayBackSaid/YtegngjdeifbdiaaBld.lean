/-
  strings.Builder at this program: the walks of copyCheck and WriteString, and the contract of String.
-/
import Derived.Shelf.Strings.Builder1
import Derived.Test.YtegngjdeifbdiaaProg
import Derived.Test.YtegngjdeifbdiaaOwn
open Go Go.RowKit Go.Proofs Go.Shelf
namespace Go.Proofs.Ytegngjdeifbdiaa
namespace Hub
end Hub
end Go.Proofs.Ytegngjdeifbdiaa
