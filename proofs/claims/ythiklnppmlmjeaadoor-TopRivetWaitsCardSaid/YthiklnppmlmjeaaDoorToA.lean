import Derived.Test.YthiklnppmlmjeaaDoorToC
namespace Fw
open Go
set_option maxRecDepth 100000
theorem awakeW : evP F C0 G0 60 11 [] = .ret (.p (.bool true)) := by kernel_rfl
end Fw
