/- text's live(), evaluated by the kernel. -/
import Derived.Test.YtmjbmbmnnephjaaGreatDoorLxKN12
import Derived.Test.YtmjbmbmnnephjaaGreatDoorEvS26
import Derived.KernelRfl
namespace Go.Proofs.YtmjbmbmnnephjaaGreatDoor
open Go Go.Ev Go.Proofs
noncomputable def pow10L : List Value := [.int .u64 1, .int .u64 10, .int .u64 100, .int .u64 1000, .int .u64 10000, .int .u64 100000, .int .u64 1000000, .int .u64 10000000, .int .u64 100000000, .int .u64 1000000000, .int .u64 10000000000, .int .u64 100000000000, .int .u64 1000000000000, .int .u64 10000000000000, .int .u64 100000000000000, .int .u64 1000000000000000, .int .u64 10000000000000000, .int .u64 100000000000000000, .int .u64 1000000000000000000, .int .u64 10000000000000000000]
noncomputable def live4Tabs (v : Value) : List Tab := [⟨0, 176, pow10L⟩, ⟨6, 103, [v]⟩]
noncomputable def live4St (v : Value) : St := ⟨layTabs (live4Tabs v), gbase 300, []⟩
theorem live4_run (u : Nat) (x : Value) : Ev.isTrue ((callF EnL (runP EnL 1000) 24 []).run (live4St (.iface u x))) = true := by kernel_rfl
end Go.Proofs.YtmjbmbmnnephjaaGreatDoor
