/- live() of the law: a text's tokens, by the kernel. -/
import Derived.Test.YtpljgnjdlciicaaGreatDoorLyKQ27
import Derived.KernelRfl
namespace Go.Proofs.YtpljgnjdlciicaaGreatDoor
open Go Go.Ev Go.Proofs
theorem runL6 (n : Int) : isV ((callF EnV (runP EnV 1000) 19 [aL6]).run (liveSt n)) vL6 = true := by kernel_rfl
end Go.Proofs.YtpljgnjdlciicaaGreatDoor
