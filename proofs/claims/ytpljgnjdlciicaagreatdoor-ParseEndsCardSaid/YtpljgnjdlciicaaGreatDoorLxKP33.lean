import Derived.Test.YtpljgnjdlciicaaGreatDoorLxKP3
import Derived.Lib.IndexMore
namespace Go.Ev
open Go
def tabP (g n : Nat) (k : List Value → Prog) : Prog := .hd (gbase g) fun h => gd (h.ex && Nat.beq h.n n) (.rd (gbase g) n 0 k)
def tabQ (g n el : Nat) (k : List Value → Prog) : Prog := .hd (gbase g) fun h => gd (h.ex && (Nat.beq h.n n && (Nat.beq h.el el && (!h.mv && (!h.sy && Nat.beq h.fz 0))))) (.rd (gbase g) n 0 k)
end Go.Ev
namespace Go.Proofs.YtpljgnjdlciicaaGreatDoor
open Go Go.Ev
def containsP : List Value → Prog
  | [.string s, .string t] => gd (Nat.ble s.data.toList.length 1000000) (tabP 2 1 fun vs => match vs with
    | [.int .i64 _] => .ret (.bool (Lib.contains s.data.toList t.data.toList))
    | _ => .fail)
  | _ => .fail
end Go.Proofs.YtpljgnjdlciicaaGreatDoor
