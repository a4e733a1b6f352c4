/-
  Rows of texts, in words.
  Conditions: none.
-/
import Derived.Test.YtgkedbhpeafbbaaCp
import Derived.Test.YtgkedbhpeafbbaaEqS2
import Derived.Test.YtgkedbhpeafbbaaMark
set_option linter.unusedSimpArgs false
set_option linter.unusedVariables false
namespace Go.Proofs.Ytgkedbhpeafbbaa
open Go.RowKit

abbrev cStr (x : ByteArray) : List Value := [.string x]

end Go.Proofs.Ytgkedbhpeafbbaa
