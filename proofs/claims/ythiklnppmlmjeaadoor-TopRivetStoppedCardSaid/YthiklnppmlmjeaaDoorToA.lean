import Derived.Test.YthiklnppmlmjeaaDoorToC
namespace Fw
open Go
set_option maxRecDepth 100000
end Fw
