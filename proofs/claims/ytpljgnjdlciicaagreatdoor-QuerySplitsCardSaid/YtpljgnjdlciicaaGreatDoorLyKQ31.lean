/- live() of the law, by the kernel. -/
import Derived.Test.YtpljgnjdlciicaaGreatDoorLyKQ27
import Derived.KernelRfl
namespace Go.Proofs.YtpljgnjdlciicaaGreatDoor
open Go Go.Ev Go.Proofs
theorem live_run (n : Int) : Ev.isTrue ((callF EnV2 (runP EnV2 1000) 9 []).run (liveSt n)) = true := by kernel_rfl
end Go.Proofs.YtpljgnjdlciicaaGreatDoor
