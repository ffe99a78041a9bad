import Derived.Test.YtbaedpfgjpkabaaGreatDoorChC
namespace Fw
open Go
set_option maxRecDepth 100000
theorem awake : evP F C0 G0 60 15 [] = .ret (.p (.bool true)) := by kernel_rfl
end Fw
