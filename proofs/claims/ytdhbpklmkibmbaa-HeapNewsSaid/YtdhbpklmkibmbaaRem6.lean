/- Layer 11 (remset): Way and Has of a fine source; the cards of a home that has one fine source alone. -/
import Derived.Test.YtdhbpklmkibmbaaRem5
import Derived.Test.YtdhbpklmkibmbaaSlSort
namespace Go.Proofs.Ytdhbpklmkibmbaa
open Go.Vc

theorem fi_get {fi : List FiE} {e : FiE} (nd : ((fiM fi).map (·.1)).Nodup) (h : e ∈ fi) : getM (fiM fi) e.k = some (.pointer (some ⟨e.f, 0, none⟩)) := (getM_some nd).2 (List.mem_map.2 ⟨e, h, rfl⟩)
end Go.Proofs.Ytdhbpklmkibmbaa
