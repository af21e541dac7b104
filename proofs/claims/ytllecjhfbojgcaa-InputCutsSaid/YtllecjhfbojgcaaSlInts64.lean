/-
  The walks through slices.Equal, Contains over []int64.
-/
import Derived.Test.YtllecjhfbojgcaaLib
namespace Go.Proofs.Ytllecjhfbojgcaa
open Go.RowKit
set_option maxRecDepth 20000

end Go.Proofs.Ytllecjhfbojgcaa
