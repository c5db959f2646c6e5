/- tlv's read where there is no value. -/
import Derived.Test.YtdbpkiddiehliaaGreatTlvRead1
namespace Go.Proofs.YtdbpkiddiehliaaGreat
open Go Go.RowKit
end Go.Proofs.YtdbpkiddiehliaaGreat
