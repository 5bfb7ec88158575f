
import Derived.Test.YtnglindlofmknaaGreatDoorQA5
section
set_option maxHeartbeats 8000000
set_option maxRecDepth 100000
namespace Sp
set_option maxRecDepth 100000
theorem full_2 : ((List.range 32).all fun i => fullK (i + 65)) = true := by decide +kernel
end Sp
end
