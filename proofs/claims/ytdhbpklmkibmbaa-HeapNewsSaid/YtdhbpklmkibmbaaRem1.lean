/- Layer 11 (remset): what isn't there; keys. -/
import Derived.Test.YtdhbpklmkibmbaaQueue
import Derived.Test.YtdhbpklmkibmbaaBitsE
import Derived.Test.YtdhbpklmkibmbaaVcL
import Derived.Test.YtdhbpklmkibmbaaMapK
namespace Go.Proofs.Ytdhbpklmkibmbaa
open Go.Vc
end Go.Proofs.Ytdhbpklmkibmbaa
