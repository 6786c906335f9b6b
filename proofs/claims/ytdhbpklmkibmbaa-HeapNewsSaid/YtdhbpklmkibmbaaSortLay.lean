import Derived.Test.YtdhbpklmkibmbaaMapD
namespace Go.Shelf
end Go.Shelf
