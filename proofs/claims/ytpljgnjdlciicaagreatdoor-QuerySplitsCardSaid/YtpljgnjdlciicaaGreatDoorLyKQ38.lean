/- live() of the law: queries, by the kernel. -/
import Derived.Test.YtpljgnjdlciicaaGreatDoorLyKQ27
import Derived.KernelRfl
namespace Go.Proofs.YtpljgnjdlciicaaGreatDoor
open Go Go.Ev Go.Proofs
theorem runP4 (n : Int) : isV ((callF EnV (runP EnV 1000) 10 [aP4]).run (liveSt n)) vP4 = true := by kernel_rfl
theorem runP5 (n : Int) : isV ((callF EnV (runP EnV 1000) 10 [aP5]).run (liveSt n)) vP5 = true := by kernel_rfl
end Go.Proofs.YtpljgnjdlciicaaGreatDoor
