/- What the oracles answer: functions of the library by their contracts, closed functions by their runs. -/
import Derived.Test.YtmjbmbmnnephjaaGreatDoorEvRun
import Derived.Lib.ItoaNum
import Derived.Lib.ParseIntB
namespace Go.Ev
open Go
/-! Tables. -/
def tabP (g n : Nat) (k : List Value → Prog) : Prog := .hd (gbase g) fun h => gd (h.ex && Nat.beq h.n n) (.rd (gbase g) n 0 k)
/-- A table as it was laid. -/
def tabQ (g n el : Nat) (k : List Value → Prog) : Prog := .hd (gbase g) fun h => gd (h.ex && (Nat.beq h.n n && (Nat.beq h.el el && (!h.mv && (!h.sy && Nat.beq h.fz 0))))) (.rd (gbase g) n 0 k)
def isTab (k : IntKind) : List Int → List Value → Bool
  | [], [] => true
  | z :: zs, .int k' v :: vs => decide (k = k') && decide (z = v) && isTab k zs vs
  | _, _ => false
end Go.Ev
namespace Go.Proofs.YtmjbmbmnnephjaaGreatDoor
open Go Go.Ev
/-- strconv.FormatInt at base 10: it looks into the table of the powers of ten. -/
def fmtIntP : List Value → Prog
  | [.int .i64 n, .int .i64 b] => gd (decide (b = 10) && (decide (-9223372036854775808 ≤ n) && decide (n ≤ 9223372036854775807))) (tabP 0 20 fun vs => gd (isTab .u64 Lib.pow10Tab vs) (.ret (.string (mkStr (Lib.itoa n)))))
  | _ => .fail
/-- strconv.FormatUint at base 10. -/
def fmtUintP : List Value → Prog
  | [.int .u64 n, .int .i64 b] => gd (decide (b = 10) && (decide (0 ≤ n) && decide (n < 18446744073709551616))) (tabP 0 20 fun vs => gd (isTab .u64 Lib.pow10Tab vs) (.ret (.string (mkStr (Lib.decDigits n.toNat)))))
  | _ => .fail
/-- strconv.ParseInt at base 10 and 64 bits, where the text is a number. -/
def parseIntP : List Value → Prog
  | [.string s, .int .i64 b, .int .i64 z] => gd (decide (b = 10) && (decide (z = 64) && Nat.ble s.data.toList.length 1000000)) (match Lib.parseIntB 64 s.data.toList with
    | .ok v => .ret (.tuple ⟨[.int .i64 v, .nilIface]⟩)
    | _ => .fail)
  | _ => .fail
def oneI : List Value → Bool
  | [.int .i64 _] => true
  | _ => false
/-- An atom of a number: an int, a time, a dec. -/
def atom3 : List Value → Bool
  | [.agg ⟨[.int .i64 t, a, b, c]⟩] => isLst a && (isLst b && (isLst c && (oneI (elems a) && ((elems b).isEmpty && ((elems c).isEmpty && (decide (t = -2) || (decide (t = -4) || decide (t = -5))))))))
  | _ => false
/-- value.Check of such an atom. -/
def checkP (args : List Value) : Prog := gd (atom3 args) (.ret (.int .i64 0))
/-- text.sources of such an atom. -/
def sourcesP (args : List Value) : Prog := gd (atom3 args) (.ret (.bool true))
/-- An error's value: a pointer, or an aggregate of one. -/
def errV : List Value → Bool
  | [.iface u (.pointer (some ⟨_, _, none⟩))] => Nat.blt u LF
  | [.iface u (.agg ⟨[.pointer (some ⟨_, _, none⟩)]⟩)] => Nat.blt u LF
  | _ => false
/-- text's live(): it looks into the table of the powers of ten, and at ErrSyntax. -/
def live4P : List Value → Prog
  | [] => tabQ 0 20 176 fun vs => gd (isTab .u64 Lib.pow10Tab vs) (tabQ 6 1 103 fun es => gd (errV es) (.ret (.bool true)))
  | _ => .fail
end Go.Proofs.YtmjbmbmnnephjaaGreatDoor
