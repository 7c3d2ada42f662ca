/- live(), evaluated by the kernel. -/
import Derived.Test.YtmjbmbmnnephjaaGreatDoorLxKL1
import Derived.KernelRfl
namespace Go.Proofs.YtmjbmbmnnephjaaGreatDoor
open Go Go.Ev Go.Proofs
/-- The world of the closed run. -/
noncomputable def EnL : Env := Env.of Tryz.prog extT (fun _ => none) rawT (fun _ _ => none) false false (fun _ _ => none) 1000000
noncomputable def liveSt : St := ⟨.nil, gbase 300, []⟩
theorem live_run : isTrue ((callF EnL (runP EnL 1000) 10 []).run liveSt) = true := by kernel_rfl
end Go.Proofs.YtmjbmbmnnephjaaGreatDoor
