/- Layer 11 (remset): Add that makes a source fine. -/
import Derived.Test.YtdhbpklmkibmbaaRem4
namespace Go.Proofs.Ytdhbpklmkibmbaa
open Go.Vc
end Go.Proofs.Ytdhbpklmkibmbaa
