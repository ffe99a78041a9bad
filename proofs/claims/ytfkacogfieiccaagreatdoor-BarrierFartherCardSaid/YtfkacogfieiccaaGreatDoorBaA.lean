import Derived.Test.YtfkacogfieiccaaGreatDoorBaC
namespace Fw
open Go
set_option maxRecDepth 100000
theorem awake : evP F C0 G0 60 13 [] = .ret (.p (.bool true)) := by kernel_rfl
end Fw
