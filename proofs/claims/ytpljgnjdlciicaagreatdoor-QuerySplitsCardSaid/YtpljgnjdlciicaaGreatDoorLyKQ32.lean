/- live() of the law: a text's tokens, by the kernel. -/
import Derived.Test.YtpljgnjdlciicaaGreatDoorLyKQ27
import Derived.KernelRfl
namespace Go.Proofs.YtpljgnjdlciicaaGreatDoor
open Go Go.Ev Go.Proofs
theorem runL1 (n : Int) : isV ((callF EnV (runP EnV 1000) 19 [aL1]).run (liveSt n)) vL1 = true := by kernel_rfl
end Go.Proofs.YtpljgnjdlciicaaGreatDoor
