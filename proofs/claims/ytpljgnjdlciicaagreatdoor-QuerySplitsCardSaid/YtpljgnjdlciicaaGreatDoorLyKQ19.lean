/- What the oracles answer: functions of the library by their contracts, closed functions by their runs. -/
import Derived.Test.YtpljgnjdlciicaaGreatDoorLyKQ3
import Derived.Lib.IndexMore
namespace Go.Ev
open Go
/-! Tables. -/
def tabP (g n : Nat) (k : List Value → Prog) : Prog := .hd (gbase g) fun h => gd (h.ex && Nat.beq h.n n) (.rd (gbase g) n 0 k)
/-- A table as it was laid. -/
def tabQ (g n el : Nat) (k : List Value → Prog) : Prog := .hd (gbase g) fun h => gd (h.ex && (Nat.beq h.n n && (Nat.beq h.el el && (!h.mv && (!h.sy && Nat.beq h.fz 0))))) (.rd (gbase g) n 0 k)
def isTab (k : IntKind) : List Int → List Value → Bool
  | [], [] => true
  | z :: zs, .int k' v :: vs => decide (k = k') && decide (z = v) && isTab k zs vs
  | _, _ => false
end Go.Ev
namespace Go.Proofs.YtpljgnjdlciicaaGreatDoor
open Go Go.Ev
/-- strings.Contains: it looks into the library's bound of short needles, whatever that is. -/
def containsP : List Value → Prog
  | [.string s, .string t] => gd (Nat.ble s.data.toList.length 1000000) (tabP 2 1 fun vs => match vs with
    | [.int .i64 _] => .ret (.bool (Lib.contains s.data.toList t.data.toList))
    | _ => .fail)
  | _ => .fail
end Go.Proofs.YtpljgnjdlciicaaGreatDoor
