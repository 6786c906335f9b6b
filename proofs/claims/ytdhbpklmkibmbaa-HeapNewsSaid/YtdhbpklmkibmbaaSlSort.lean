/- The library's sort of whole numbers. -/
import Derived.Test.YtdhbpklmkibmbaaVcL
import Derived.Test.YtdhbpklmkibmbaaSortW
import Derived.Test.YtdhbpklmkibmbaaSortLay
namespace Go.Proofs.Ytdhbpklmkibmbaa
open Go.Vc Go.Sort Go.Shelf
end Go.Proofs.Ytdhbpklmkibmbaa
