import Derived.Test.YtpljgnjdlciicaaGreatDoorLxKP34
import Derived.Test.YtpljgnjdlciicaaGreatDoorLxKP32
import Derived.KernelRfl
namespace Go.Proofs.YtpljgnjdlciicaaGreatDoor
open Go Go.Ev Go.Proofs
noncomputable def orcV : List (Nat × (List Value → Prog)) := [(166, containsP), (207, cloneP 207), (108, cloneP 108), (208, cloneP 208)]
noncomputable def orcVr : Tr (List Value → Prog) := orcV.foldr (fun (f, p) t => t.set f (some p)) .nil
noncomputable def orcVF (f : Nat) : Option (List Value → Prog) := orcVr.get f
noncomputable def EnV : Env := Env.of Tryz.prog extT orcVF rawT (fun _ _ => none) false false (fun _ _ => none) 1000000
noncomputable def liveTabs (n : Int) : List Tab := [⟨2, 3, [.int .i64 n]⟩]
noncomputable def liveSt (n : Int) : St := ⟨layTabs (liveTabs n), gbase 300, []⟩
theorem live_run (n : Int) : Ev.isTrue ((callF EnV (runP EnV 1000) 6 []).run (liveSt n)) = true := by kernel_rfl
end Go.Proofs.YtpljgnjdlciicaaGreatDoor
