/- Layer 11 (remset): forget, Clear, Scrub. -/
import Derived.Test.YtdhbpklmkibmbaaRem14
import Derived.Test.YtdhbpklmkibmbaaMapD
namespace Go.Proofs.Ytdhbpklmkibmbaa
open Go.Vc
end Go.Proofs.Ytdhbpklmkibmbaa
