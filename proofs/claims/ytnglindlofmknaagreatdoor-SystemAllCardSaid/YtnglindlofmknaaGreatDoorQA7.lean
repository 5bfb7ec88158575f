
import Derived.Test.YtnglindlofmknaaGreatDoorQA5
section
set_option maxHeartbeats 8000000
set_option maxRecDepth 100000
namespace Sp
set_option maxRecDepth 100000
theorem full_1 : ((List.range 64).all fun i => fullK (i + 1)) = true := by decide +kernel
end Sp
end
