/- live() of the law: a query, by the kernel. -/
import Derived.Test.YtpljgnjdlciicaaGreatDoorLyKQ27
import Derived.KernelRfl
namespace Go.Proofs.YtpljgnjdlciicaaGreatDoor
open Go Go.Ev Go.Proofs
theorem runP1 (n : Int) : isV ((callF EnV1 (runP EnV1 1000) 10 [aP1]).run (liveSt n)) vP1 = true := by kernel_rfl
end Go.Proofs.YtpljgnjdlciicaaGreatDoor
