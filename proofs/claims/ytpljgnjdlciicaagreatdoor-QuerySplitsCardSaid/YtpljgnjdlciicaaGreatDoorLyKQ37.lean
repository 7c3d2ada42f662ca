/- live() of the law: queries, by the kernel. -/
import Derived.Test.YtpljgnjdlciicaaGreatDoorLyKQ27
import Derived.KernelRfl
namespace Go.Proofs.YtpljgnjdlciicaaGreatDoor
open Go Go.Ev Go.Proofs
theorem runP3 (n : Int) : isV ((callF EnV (runP EnV 1000) 10 [aP3]).run (liveSt n)) vP3 = true := by kernel_rfl
end Go.Proofs.YtpljgnjdlciicaaGreatDoor
