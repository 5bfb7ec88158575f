
import Derived.Test.YtnglindlofmknaaGreatDoorQA5
section
set_option maxHeartbeats 8000000
set_option maxRecDepth 100000
namespace Sp
set_option maxRecDepth 100000
theorem full_3 : ((List.range 16).all fun i => fullK (i + 97)) = true := by decide +kernel
end Sp
end
