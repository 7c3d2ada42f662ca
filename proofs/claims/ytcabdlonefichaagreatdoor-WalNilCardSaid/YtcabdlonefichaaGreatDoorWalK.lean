/- WalNil, evaluated: the evaluator's answer, by the kernel. -/
import Derived.Test.YtcabdlonefichaaGreatDoorEvRun
import Derived.Test.YtcabdlonefichaaGreatDoorProg
import Derived.KernelRfl
namespace Go.Proofs.YtcabdlonefichaaGreatDoor
open Go Go.Ev Go.Proofs


noncomputable def walExt : List (Nat × Nat) := [(128, 2), (145, 1), (127, 3), (62, 4)]
noncomputable def walEnv : Env := Env.of Tryz.prog walExt
noncomputable def pow10 : List Value := [.int .u64 1, .int .u64 10, .int .u64 100, .int .u64 1000, .int .u64 10000, .int .u64 100000, .int .u64 1000000, .int .u64 10000000, .int .u64 100000000, .int .u64 1000000000, .int .u64 10000000000, .int .u64 100000000000, .int .u64 1000000000000, .int .u64 10000000000000, .int .u64 100000000000000, .int .u64 1000000000000000, .int .u64 10000000000000000, .int .u64 100000000000000000, .int .u64 1000000000000000000, .int .u64 10000000000000000000]
/-- The evaluator's memory when the call begins: the one table that is read. -/
noncomputable def walSt : St := ⟨layGlobal 2 184 pow10 .nil, 1, []⟩
/-- Where the argument's block stands in the evaluator's numbers. -/
noncomputable def argAt : Nat := gbase 100
noncomputable def seqL : Code → Code
  | .seq a _ => a
  | c => c
noncomputable def seqR : Code → Code
  | .seq _ b => b
  | c => c
noncomputable def body3 : Code := match Tryz.f3.body with
  | some c => c
  | none => .skip
noncomputable def cond3 : Code := seqR (seqL (seqR body3))
noncomputable def tail3 : Code := seqR (seqR body3)
/-- The frame behind the comparison of the argument's length. -/
noncomputable def tm3 (p : Value) (len : Nat) (n : Int) (b : Bool) : Tm :=
  putT (putT (putT (putT ⟨102, argsT [p, .int .u64 n] 0⟩ (some 4) (.bool false)) (some 12) p) (some 13) (.int .i64 (.ofNat len))) (some 14) (.bool b)
noncomputable def rest3 (f : Nat) (p : Value) (len : Nat) (n : Int) (b : Bool) : Option (Value × St) :=
  (runP walEnv f 3 (tm3 p len n b) [.code cond3, .code tail3] [] none).run walSt
noncomputable def someP (len cap : Nat) : Value := .slice (some ⟨argAt, 0, none⟩) len (capOf cap true)
noncomputable def noneP : Value := .slice none 0 0
theorem none_false (n : Int) : isTrue (rest3 1000000 noneP 0 n false) = true := by kernel_rfl
theorem some_false (len cap : Nat) (n : Int) : isTrue (rest3 1000000 (someP len cap) len n false) = true := by kernel_rfl
theorem some_true (len cap : Nat) (n : Int) : isTrue (rest3 1000000 (someP len cap) len n true) = true := by kernel_rfl

end Go.Proofs.YtcabdlonefichaaGreatDoor
