/- live() of the law: a query's text, by the kernel. -/
import Derived.Test.YtpljgnjdlciicaaGreatDoorLyKQ27
import Derived.KernelRfl
namespace Go.Proofs.YtpljgnjdlciicaaGreatDoor
open Go Go.Ev Go.Proofs
theorem runPr (n : Int) : isV ((callF EnV (runP EnV 1000) 22 [qP1]).run (liveSt n)) vPr = true := by kernel_rfl
end Go.Proofs.YtpljgnjdlciicaaGreatDoor
