/- The library's Index and Contains at whole numbers. -/
import Derived.Test.YtdhbpklmkibmbaaSame01
namespace Go.Proofs.Ytdhbpklmkibmbaa
open Go.Vc
end Go.Proofs.Ytdhbpklmkibmbaa
