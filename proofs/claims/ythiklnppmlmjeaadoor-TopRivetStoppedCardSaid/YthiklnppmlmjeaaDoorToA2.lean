import Derived.Test.YthiklnppmlmjeaaDoorToC
namespace Fw
open Go
set_option maxRecDepth 100000
theorem awakeS : evP F C0 G0 60 23 [] = .ret (.p (.bool true)) := by kernel_rfl
end Fw
