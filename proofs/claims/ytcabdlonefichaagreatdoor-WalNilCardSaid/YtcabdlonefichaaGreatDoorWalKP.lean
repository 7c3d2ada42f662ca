/- WalNil, evaluated: up to the comparison of the argument's length. -/
import Derived.Test.YtcabdlonefichaaGreatDoorWalK
namespace Go.Proofs.YtcabdlonefichaaGreatDoor
open Go Go.Ev Go.Proofs
theorem upto_none (f : Nat) (n : Int) : (callF walEnv (runP walEnv (f + 5)) 3 [noneP, .int .u64 n]).run walSt = rest3 f noneP 0 n false := by kernel_rfl
theorem upto_some (f len cap : Nat) (n : Int) : (callF walEnv (runP walEnv (f + 5)) 3 [someP len cap, .int .u64 n]).run walSt = rest3 f (someP len cap) len n (decide ((200000 : Int) < .ofNat len)) := by kernel_rfl
end Go.Proofs.YtcabdlonefichaaGreatDoor
