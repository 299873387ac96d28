/- Compare of the package match: how much two records agree, or the error. For all records. -/
import Derived.LoopN
import Derived.Test.YtlkjimfkapcenaaGreatQCompareOne
namespace Go.Proofs.YtlkjimfkapcenaaGreat
open Go.RowKit

end Go.Proofs.YtlkjimfkapcenaaGreat
