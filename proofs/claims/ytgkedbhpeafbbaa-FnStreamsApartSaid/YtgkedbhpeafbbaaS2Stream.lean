/-
  Rows of streams, in words.
  Conditions: none.
-/
import Derived.Test.YtgkedbhpeafbbaaCp
set_option linter.unusedSimpArgs false
set_option linter.unusedVariables false
namespace Go.Proofs.Ytgkedbhpeafbbaa
open Go.RowKit

abbrev cStream (x : Sm) : List Value := [.int .i64 x.f.k, .int .i64 x.f.s, .int .i64 x.f.d, .int .i64 x.f.p, .int .i64 x.f.q, .int .i64 x.nx, .string x.dt, .bool x.dn]

end Go.Proofs.Ytgkedbhpeafbbaa
