/- SegmentJoins, walked: with the contracts of what it calls. -/
import Derived.Test.YtpomfegcifpfkaaLies
import Derived.Outline
namespace Go.Proofs.Ytpomfegcifpfkaa
open Go Go.RowKit Go.Sort
variable {P : Program} {k h : Nat}
end Go.Proofs.Ytpomfegcifpfkaa
