/- The evaluator's operations. -/
import Derived.Test.YtcabdlonefichaaGreatDoorEvCore
namespace Go.Ev
open Go

def U : Value := .tuple #[]
def vInt (n : Int) : Value := .int .i64 n
def isAggD : TypeDesc → Bool
  | .struct _ | .array _ _ => true
  | _ => false

def loadT (E : Env) (t b o : Nat) : Prog :=
  match E.und t with
  | some d => (match isAggD d with
    | true => opt (E.size t) fun n => .rd b n o fun vs => .ret (.agg ⟨vs⟩)
    | false => .rd b 1 o fun vs => (match vs with | [v] => .ret v | _ => .fail))
  | none => .fail
def cellsL (v : Value) : List Value := v.cells.toList
def storeT (E : Env) (t b o : Nat) (v : Value) : Prog :=
  opt (E.size t) fun n => gd (Nat.beq (cellsL v).length n) (.wr b o (cellsL v) (.ret U))
/-! Integers. -/
def arith (op : BinOp) (k : IntKind) (x y : Int) : Option Value :=
  match op with
  | .add => some (.int k (k.wrap (x + y)))
  | .sub => some (.int k (k.wrap (x - y)))
  | .mul => some (.int k (k.wrap (x * y)))
  | .quo => if y = 0 then none else some (.int k (k.wrap (x.tdiv y)))
  | .rem => if y = 0 then none else some (.int k (x.tmod y))
  | .and => some (.int k (k.wrap ((BitVec.ofInt k.bits x) &&& (BitVec.ofInt k.bits y)).toNat))
  | .or => some (.int k (k.wrap ((BitVec.ofInt k.bits x) ||| (BitVec.ofInt k.bits y)).toNat))
  | .xor => some (.int k (k.wrap ((BitVec.ofInt k.bits x) ^^^ (BitVec.ofInt k.bits y)).toNat))
  | .andNot => some (.int k (k.wrap ((BitVec.ofInt k.bits x) &&& ~~~(BitVec.ofInt k.bits y)).toNat))
  | .eql => some (.bool (x == y))
  | .neq => some (.bool (x != y))
  | .lss => some (.bool (x < y))
  | .leq => some (.bool (x ≤ y))
  | .gtr => some (.bool (x > y))
  | .geq => some (.bool (x ≥ y))
  | _ => none
def shiftA (op : BinOp) (k : IntKind) (x y : Int) : Option Value :=
  if y < 0 then none else
  match op with
  | .shl => some (.int k (k.wrap (x * 2 ^ (min y.toNat k.bits))))
  | .shr => some (.int k (x.fdiv (2 ^ (min y.toNat k.bits))))
  | _ => none
def strOp (op : BinOp) (x y : ByteArray) : Option Value :=
  match op with
  | .add => (match Nat.ble (Nat.add x.data.toList.length y.data.toList.length) 9223372036854775807 with
    | true => some (.string (mkStr (x.data.toList ++ y.data.toList)))
    | false => none)
  | .eql => some (.bool (beqB x.data.toList y.data.toList))
  | .neq => some (.bool (!beqB x.data.toList y.data.toList))
  | .lss => some (.bool (lessB x.data.toList y.data.toList))
  | .leq => some (.bool (lessB x.data.toList y.data.toList || beqB x.data.toList y.data.toList))
  | .gtr => some (.bool (!(lessB x.data.toList y.data.toList || beqB x.data.toList y.data.toList)))
  | .geq => some (.bool (!lessB x.data.toList y.data.toList))
  | _ => none

/-- Are two values of a type equal? -/
def eqV (E : Env) : (d : Nat) → TypeId → Value → Value → Option Bool
  | 0, _, _, _ => none
  | d + 1, t, x, y =>
    match E.und t, x, y with
    | some .bool, .bool a, .bool b => some (a == b)
    | some (.int _), .int k a, .int k' b => if k = k' then some (a == b) else none
    | some .string, .string a, .string b => some (beqB a.data.toList b.data.toList)
    | some (.pointer _), .pointer none, .pointer b => some b.isNone
    | some (.pointer _), .pointer _, .pointer none => some false
    | some (.pointer e), .pointer (some a), .pointer (some b) =>
      (match E.size e with
      | some (_ + 1) => (match Nat.beq a.block b.block && Nat.beq a.off b.off with | true => some true | false => none)
      | _ => none)
    | some (.interface _), .nilIface, .nilIface => some true
    | some (.interface _), .nilIface, .iface _ _ => some false
    | some (.interface _), .iface _ _, .nilIface => some false
    | some (.interface _), .iface tx vx, .iface ty vy =>
      (match Nat.beq tx ty with
      | false => some false
      | true => match E.ty.get tx with
        | some i => (match i.comparable with | true => eqV E d tx vx vy | false => none)
        | none => none)
    | some (.slice _), .slice none _ _, .slice b _ _ => some b.isNone
    | some (.slice _), .slice _ _ _, .slice none _ _ => some false
    | some (.map _ _), .map none, .map b => some b.isNone
    | some (.map _ _), .map _, .map none => some false
    | some (.func _ _ _), .nilFunc, .nilFunc => some true
    | some (.func _ _ _), .nilFunc, .func _ _ _ => some false
    | some (.func _ _ _), .func _ _ _, .nilFunc => some false
    | _, _, _ => none
def isConstO : Operand → Bool
  | .const _ => true
  | _ => false
/-- What must be sure ahead of '==' and '!='. -/
def guardOk (x y : Operand) (a b : Value) : Bool :=
  match a, b with
  | .nilIface, .nilIface => isConstO x || isConstO y
  | .agg _, .agg _ => false
  | _, _ => true
def binA (E : Env) (op : BinOp) (t : TypeId) (xo yo : Operand) (x y : Value) : Option Value :=
  match op, x, y with
  | .shl, .int k a, .int _ b => shiftA .shl k a b
  | .shr, .int k a, .int _ b => shiftA .shr k a b
  | op, .int k a, .int k' b => if k = k' then arith op k a b else none
  | op, .string a, .string b => strOp op a b
  | .eql, x, y => (match guardOk xo yo x y with
    | true => (match eqV E 50 t x y with | some b => some (.bool b) | none => none)
    | false => none)
  | .neq, x, y => (match guardOk xo yo x y with
    | true => (match eqV E 50 t x y with | some b => some (.bool (!b)) | none => none)
    | false => none)
  | _, _, _ => none
def unA (op : UnOp) (x : Value) : Option Value :=
  match op, x with
  | .neg, .int k n => arith .sub k 0 n
  | .xor, .int k n => arith .xor k (if k.signed then -1 else k.max) n
  | .not, .bool b => some (.bool !b)
  | _, _ => none

/-! Rows. -/
def natOf : Value → Option Nat
  | .int _ (.ofNat n) => some n
  | _ => none
def natOr (d : Nat) : Option Value → Option Nat
  | some v => natOf v
  | none => some d
def elemOfSlice (E : Env) (t : TypeId) : Option TypeId := match E.und t with | some (.slice e) => some e | _ => none
def ptrElem (E : Env) (t : TypeId) : Option TypeId := match E.und t with | some (.pointer e) => some e | _ => none
def part (E : Env) (t : TypeId) (cs : List Value) (off : Nat) : Option Value :=
  match E.und t with
  | some d => (match isAggD d with
    | true => (match E.size t with | some n => some (.agg ⟨(cs.drop off).take n⟩) | none => none)
    | false => cs[off]?)
  | none => none
def arrOf (E : Env) (t : TypeId) : Option (Nat × TypeId) :=
  match E.und t with
  | some (.pointer arr) => (match E.und arr with | some (.array n e) => some (n, e) | _ => none)
  | _ => none
def sliceA (E : Env) (t : TypeId) (x : Value) (lo hi mx : Option Value) : Prog :=
  opt (natOr 0 lo) fun l =>
  match x with
  | .string str => (match E.und t, mx with
    | some .string, none => opt (natOr str.data.toList.length hi) fun h =>
      gd (decide (l ≤ h ∧ h ≤ str.data.toList.length)) (.ret (.string (mkStr ((str.data.toList.drop l).take (h - l)))))
    | _, _ => .fail)
  | .slice a len c => (match E.und t with
    | some (.slice e) => opt (natOr len hi) fun h => opt (E.size e) fun sz =>
      (match a with
      | none => gd (decide (l = 0 ∧ h = 0 ∧ len = 0) && mx.isNone) (.ret (.slice none 0 0))
      | some a => (match mx with
        | none => gd (decide (l ≤ h ∧ h ≤ capLo c)) (match capEx c with
          | true => (match Nat.beq (capLo c) l with
            | true => .ret (.slice (some a) 0 (capOf 0 true))
            | false => .ret (.slice (some ⟨a.block, a.off + l * sz, none⟩) (h - l) (capOf (capLo c - l) true)))
          | false => .hd a.block fun hd => gd (Nat.beq hd.el e) (.ret (.slice (some ⟨a.block, a.off + l * sz, none⟩) (h - l) (capOf (capLo c - l) false))))
        | some m => opt (natOf m) fun m => gd hi.isSome <|
          gd (decide (l ≤ h ∧ h ≤ m ∧ m ≤ capLo c)) (match Nat.beq m l with
            | true => .ret (.slice (some a) 0 (capOf 0 true))
            | false => .ret (.slice (some ⟨a.block, a.off + l * sz, none⟩) (h - l) (capOf (m - l) true)))))
    | _ => .fail)
  | .pointer (some a) => (match arrOf E t, mx with
    | some (n, e), none => opt (natOr n hi) fun h => opt (E.size e) fun sz =>
      gd (decide (l ≤ h ∧ h ≤ n ∧ l < n)) (.ret (.slice (some ⟨a.block, a.off + l * sz, none⟩) (h - l) (capOf (n - l) true)))
    | _, _ => .fail)
  | _ => .fail
def rep (z : List Value) : Nat → List Value
  | 0 => []
  | n + 1 => z ++ rep z n
def makeSliceA (E : Env) (t : TypeId) (l c : Value) : Prog :=
  opt (elemOfSlice E t) fun e => opt (natOf l) fun l => opt (natOf c) fun c => opt (E.zero e) fun z => opt (E.bytes e) fun b =>
  gd (decide (l ≤ c ∧ b * c ≤ 1099511627776 ∧ c ≤ 1099511627776))
    (.new e true (rep (cellsL z) c) true false fun k => .ret (.slice (some ⟨k, 0, none⟩) l (capOf c true)))
/-- The cells of a slice's, or a string's, first so many elements. -/
def firstA (sz n : Nat) (x : Value) (k : List Value → Prog) : Prog :=
  match x with
  | .slice (some a) _ _ => .rd a.block (n * sz) a.off k
  | .slice none _ _ => k []
  | .string str => gd (Nat.beq sz 1) (k ((str.data.toList.take n).map (fun b => .int .u8 b.toNat)))
  | _ => .fail
def lenA : Value → Option Nat
  | .slice _ n _ => some n
  | .string s => some s.data.toList.length
  | _ => none
def isIntD : TypeDesc → Bool
  | .int _ => true
  | _ => false
/-- What is appended: so many zeros ('append(s, make([]T, n)...)'), or a slice's or a string's elements. -/
def appN (d : Bool) (x : Value) : Option Nat :=
  match d with
  | true => natOf x
  | false => lenA x
def appC (E : Env) (d : Bool) (e sz n : Nat) (x : Value) (k : List Value → Prog) : Prog :=
  match d with
  | true => opt (E.zero e) fun z => k (rep (cellsL z) n)
  | false => firstA sz n x k
def appendA (E : Env) (ts : List TypeId) (args : List Value) : Prog :=
  match ts, args with
  | [t, tx], [.slice base len c, x] =>
    opt (elemOfSlice E t) fun e => opt (E.und tx) fun d => opt (E.size e) fun sz => opt (E.bytes e) fun by_ => opt (appN (isIntD d) x) fun n =>
    opt (E.zero e) fun _ => gd (decide ((len + n) * (by_ + 1) ≤ 1099511627776)) (match base with
    | none => (match n with
      | 0 => .ret (.slice none 0 0)
      | n + 1 => appC E (isIntD d) e sz (n + 1) x fun new => .new e false new true false fun k => .ret (.slice (some ⟨k, 0, none⟩) (n + 1) (capOf (n + 1) false)))
    | some a => (match Nat.ble (len + n) (capLo c) with
      | true => appC E (isIntD d) e sz n x fun new => (match n with
        | 0 => .ret (.slice (some a) len c)
        | n + 1 => .wr a.block (a.off + len * sz) new (.ret (.slice (some a) (len + (n + 1)) c)))
      | false => (match capEx c with
        | true => .rd a.block (len * sz) a.off fun old => appC E (isIntD d) e sz n x fun new =>
          .new e false (old ++ new) true false fun k => .ret (.slice (some ⟨k, 0, none⟩) (len + n) (capOf (len + n) false))
        -- to the end of what is known, not moved yet, not read only, nothing frozen that is not below
        | false => .hd a.block fun h =>
          gd (decide (h.el = e ∧ a.off + len * sz = h.n ∧ h.mv = false ∧ h.ro = false ∧ h.ex = false ∧ h.fz ≤ len * sz + n * sz))
            (.rd a.block (len * sz) a.off fun old => appC E (isIntD d) e sz n x fun new => gd (new.all oneC)
              (.setHd a.block ⟨h.n, h.el, h.ro, h.ex, h.z, h.fz, h.sy, true, []⟩
                (.newH ⟨len * sz + n * sz, e, false, false, false, h.fz, h.sy, false, a.block :: h.olds⟩ (old ++ new)
                  fun k => .ret (.slice (some ⟨k, 0, none⟩) (len + n) (capOf (len + n) false))))))))
  | _, _ => .fail
def copyA (E : Env) (ts : List TypeId) (args : List Value) : Prog :=
  match ts, args with
  | t :: _, [.slice base len _, x] =>
    opt (elemOfSlice E t) fun e => opt (E.size e) fun sz => opt (lenA x) fun m =>
    firstA sz (min m len) x fun cs => (match base with
      | none => .ret (vInt (min m len))
      | some a => (match min m len with
        | 0 => .ret (vInt 0)
        | n + 1 => .wr a.block a.off cs (.ret (vInt (n + 1)))))
  | _, _ => .fail

/-! Maps with plain keys. -/
def keyNow (d : TypeDesc) (a b : Value) : Option Bool :=
  match d, a, b with
  | .int _, .int k x, .int k' y => if k = k' then some (x == y) else none
  | .string, .string x, .string y => some (beqB x.data.toList y.data.toList)
  | .bool, .bool x, .bool y => some (x == y)
  | _, _, _ => none
def findK (d : TypeDesc) (k : Value) : List MapEntry → Nat → Option (Option (Nat × MapEntry))
  | [], _ => some none
  | e :: es, i =>
    match keyNow d k e.key with
    | some true => some (some (i, e))
    | some false => findK d k es (Nat.add i 1)
    | none => none
def plainKey : TypeDesc → Value → Bool
  | .int _, .int _ _ | .string, .string _ | .bool, .bool _ => true
  | _, _ => false
def setAt (es : List MapEntry) : Nat → MapEntry → List MapEntry
  | i, e => match es with
    | [] => []
    | x :: xs => match i with
      | 0 => e :: xs
      | j + 1 => x :: setAt xs j e
def mapOf (E : Env) (t : TypeId) : Option (TypeId × TypeId) := match E.und t with | some (.map k e) => some (k, e) | _ => none
def entsOf : Slot → Option (List MapEntry × Nat)
  | .mp es c => some (es, c)
  | _ => none
def okV (ok : Bool) (v : Value) (b : Bool) : Value := match ok with | true => .tuple #[v, .bool b] | false => v
def lookupA (E : Env) (t : TypeId) (x k : Value) (ok : Bool) : Prog :=
  opt (mapOf E t) fun kt => opt (E.und kt.1) fun d => gd (plainKey d k) (opt (E.zero kt.2) fun z => match x with
    | .map none => .ret (okV ok z false)
    | .map (some m) => .obj m fun o => opt (entsOf o) fun ec => opt (findK d k ec.1 0) fun r => (match r with
      | some e => .ret (okV ok e.2.val true)
      | none => .ret (okV ok z false))
    | _ => .fail)
def mapSet (E : Env) (t : TypeId) (x k v : Value) : Prog :=
  match x with
  | .map (some m) => opt (mapOf E t) fun kt => opt (E.und kt.1) fun d => gd (plainKey d k) (.obj m fun o => opt (entsOf o) fun ec => opt (findK d k ec.1 0) fun r => match r with
    | some e => .setObj m (.mp (setAt ec.1 e.1 { e.2 with key := k, val := v }) ec.2) (.ret U)
    | none => .setObj m (.mp (ec.1 ++ [{ key := k, val := v, born := ec.2 }]) (Nat.add ec.2 1)) (.ret U))
  | _ => .fail
def mapEntryA (E : Env) (t : TypeId) (x k : Value) : Prog :=
  match x with
  | .map (some m) => opt (mapOf E t) fun kt => opt (E.und kt.1) fun d => opt (E.zero kt.2) fun z => gd (plainKey d k) (.obj m fun o => opt (entsOf o) fun ec => opt (findK d k ec.1 0) fun r => match r with
    | some e => .setObj m (.mp (setAt ec.1 e.1 { e.2 with key := k }) ec.2) (.ret (.tuple #[e.2.val, vInt e.2.born]))
    | none => .setObj m (.mp (ec.1 ++ [{ key := k, val := z, born := ec.2 }]) (Nat.add ec.2 1)) (.ret (.tuple #[z, vInt ec.2])))
  | _ => .fail
def findBorn (n : Nat) : List MapEntry → Nat → Option (Nat × MapEntry)
  | [], _ => none
  | e :: es, i => if Nat.beq e.born n then some (i, e) else findBorn n es (Nat.add i 1)
def entryStoreA (x stamp v : Value) : Prog :=
  match x with
  | .map (some m) => opt (natOf stamp) fun n => .obj m fun o => opt (entsOf o) fun ec => opt (findBorn n ec.1 0) fun e =>
      .setObj m (.mp (setAt ec.1 e.1 { e.2 with val := v }) ec.2) (.ret U)
  | _ => .fail
def deleteA (E : Env) (ts : List TypeId) (args : List Value) : Prog :=
  match ts, args with
  | t :: _, [.map r, k] => opt (mapOf E t) fun kt => opt (E.und kt.1) fun d => gd (plainKey d k) (match r with
      | none => .ret U
      | some m => .obj m fun o => opt (entsOf o) fun ec => opt (findK d k ec.1 0) fun f => (match f with
        | some e => .setObj m (.mp (ec.1.eraseIdx e.1) ec.2) (.ret U)
        | none => .setObj m (.mp ec.1 ec.2) (.ret U)))
  | _, _ => .fail
def itP (k : Nat) : Value := .pointer (some ⟨k, 0, none⟩)
def rangeA (E : Env) (t : TypeId) (x : Value) : Prog :=
  match E.und t, x with
  | some .string, .string str => .newObj (.sit str 0) fun k => .ret (itP k)
  | some (.map _ _), .map none => .newObj (.mit none 0 [] 0) fun k => .ret (itP k)
  | some (.map _ _), .map (some m) => .obj m fun o => opt (entsOf o) fun ec => .newObj (.mit (some m) ec.2 [] ec.2) fun k => .ret (itP k)
  | _, _ => .fail
def memN (n : Nat) : List Nat → Bool
  | [] => false
  | m :: l => Nat.beq n m || memN n l
def nextA (x : Value) (str : Bool) : Prog :=
  match x with
  | .pointer (some a) => gd (Nat.beq a.off 0) (.obj a.block fun o => (match o, str with
    | .mit none _ _ _, false => .ret (.tuple #[.bool false])
    | .mit (some m) since seen last, false => .obj m fun o => opt (entsOf o) fun ec =>
      gd (!(!seen.isEmpty && !ec.1.isEmpty && ec.1.all (fun e => Nat.ble last e.born)))
        (match ec.1.filter (fun e => !memN e.born seen) with
        | [] => .ret (.tuple #[.bool false])
        | [e] => gd (Nat.blt e.born since) (.setObj a.block (.mit (some m) since (seen ++ [e.born]) ec.2) (.ret (.tuple #[.bool true, e.key, e.val])))
        | _ => .fail)
    | .sit b pos, true => (match b.data.toList.drop pos with
      | [] => .ret (.tuple #[.bool false])
      | c :: _ => gd (Nat.blt c.toNat 128) (.setObj a.block (.sit b (Nat.add pos 1)) (.ret (.tuple #[.bool true, vInt pos, .int .i32 c.toNat]))))
    | _, _ => .fail))
  | _ => .fail
def entryA (x : Value) : Prog :=
  match x with
  | .pointer (some a) => gd (Nat.beq a.off 0) (.obj a.block fun o => (match o with
    | .mit (some m) _ seen stepped => .obj m fun o => opt (entsOf o) fun ec => opt seen.getLast? fun stamp =>
      gd (Nat.beq ec.2 stepped) (opt (findBorn stamp ec.1 0) fun e => .ret (.tuple #[e.2.key, e.2.val]))
    | _ => .fail))
  | _ => .fail

/-! Conversions. -/
def bytesRd : List Value → Option (List UInt8)
  | [] => some []
  | .int .u8 n :: l => (match bytesRd l with | some r => some (UInt8.ofNat n.toNat :: r) | none => none)
  | _ => none
def isU8 (E : Env) (t : TypeId) : Bool := match E.und t with | some (.int .u8) => true | _ => false
def isOne (E : Env) (t : TypeId) : Bool := match E.size t with | some n => Nat.beq n 1 | none => false
def convA (E : Env) (src dst : TypeId) (x : Value) : Prog :=
  opt (E.und src) fun ds => opt (E.und dst) fun dd =>
  match ds, dd, x with
  | _, .int k, .int _ n => .ret (.int k (k.wrap n))
  | _, .string, .string b => .ret (.string b)
  | _, .slice e, .string b => gd (isU8 E e && isOne E e) (.new e false (b.data.toList.map (fun c => .int .u8 c.toNat)) true true fun k =>
      .ret (.slice (some ⟨k, 0, none⟩) b.data.toList.length (capOf b.data.toList.length false)))
  | .slice _, .slice e, .slice (some a) len c => gd (Nat.beq src dst && isU8 E e) (.hd a.block fun h =>
      gd (decide (h.fz = 0 ∧ h.mv = false ∧ h.ro = false ∧ h.z = true)) (.setHd a.block ⟨h.n, h.el, h.ro, h.ex, h.z, h.fz, true, h.mv, h.olds⟩ (.ret (.slice (some a) len c))))
  | .slice e, .string, .slice a len _ => gd (isU8 E e) (match a with
      | none => .ret (.string (mkStr []))
      | some a => .rd a.block len a.off fun vs => opt (bytesRd vs) fun bs => .ret (.string (mkStr bs)))
  | _, _, _ => .fail

/-! An operation that is no call of a Go function. -/
def maxMin (mx : Bool) : Value → List Value → Option Value
  | x, [] => some x
  | .int k x, .int k' y :: rest => if k = k' then maxMin mx (.int k (if mx then (if x < y then y else x) else (if y < x then y else x))) rest else none
  | _, _ => none
def lenOp (E : Env) (ts : List TypeId) (args : List Value) : Prog :=
  match ts, args with
  | t :: _, [x] => opt (E.und t) fun d => (match d, x with
    | .string, .string str => .ret (vInt str.data.toList.length)
    | .array n _, _ => .ret (vInt n)
    | .slice _, .slice _ n _ => .ret (vInt n)
    | .map _ _, .map none => .ret (vInt 0)
    | .map _ _, .map (some m) => .obj m fun o => opt (entsOf o) fun ec => .ret (vInt ec.1.length)
    | _, _ => .fail)
  | _, _ => .fail
def capOp (E : Env) (ts : List TypeId) (args : List Value) : Prog :=
  match ts, args with
  | t :: _, [x] => opt (E.und t) fun d => (match d, x with
    | .slice _, .slice none _ _ => .ret (vInt 0)
    | .slice _, .slice (some _) _ c => gd (capEx c) (.ret (vInt (capLo c)))
    | .array n _, _ => .ret (vInt n)
    | _, _ => .fail)
  | _, _ => .fail
def clearOp (E : Env) (ts : List TypeId) (args : List Value) : Prog :=
  match ts, args with
  | t :: _, [.slice a n _] => opt (elemOfSlice E t) fun e => opt (E.zero e) fun z => (match a, n with
    | none, 0 => .ret U
    | some a, n => .wr a.block a.off (rep (cellsL z) n) (.ret U)
    | _, _ => .fail)
  | _, _ => .fail
def builtinA (E : Env) (b : Builtin) (ts : List TypeId) (args : List Value) : Prog :=
  match b with
  | .append => appendA E ts args
  | .len => lenOp E ts args
  | .cap => capOp E ts args
  | .copy => copyA E ts args
  | .delete => deleteA E ts args
  | .clear => clearOp E ts args
  | .max => (match args with | x :: rest => opt (maxMin true x rest) .ret | [] => .fail)
  | .min => (match args with | x :: rest => opt (maxMin false x rest) .ret | [] => .fail)
  | _ => .fail
/-- A cell for each part; the parts in their order. -/
def fillA (place : Nat → Option (Nat × Nat)) : List Value → List (Nat × Value) → Option (List Value)
  | cs, [] => some cs
  | cs, (i, v) :: ps => match place i with
    | some (o, n) => (match Nat.beq (cellsL v).length n && Nat.ble (Nat.add o n) cs.length with
      | true => fillA place (cs.take o ++ cellsL v ++ cs.drop (Nat.add o n)) ps
      | false => none)
    | none => none
def buildA (E : Env) (t : TypeId) (ps : List (Nat × Value)) : Prog :=
  opt (E.zero t) fun z => opt (E.und t) fun d => (match d with
    | .struct fs => gd (fs.all (fun f => (E.size f.type).isSome)) (opt (fillA (fun i => (fs[i]?).bind fun f => (E.size f.type).map fun n => (f.offset, n)) (cellsL z) ps) fun cs => .ret (.agg ⟨cs⟩))
    | .array _ e => opt (E.size e) fun n => opt (fillA (fun i => some (i * n, n)) (cellsL z) ps) fun cs => .ret (.agg ⟨cs⟩)
    | _ => .fail)
def buildSliceA (E : Env) (t : TypeId) (len : Nat) (ps : List (Nat × Value)) : Prog :=
  opt (elemOfSlice E t) fun e => opt (E.size e) fun n => gd (Nat.ble (len * n) 4096) (opt (E.zero e) fun z =>
    opt (fillA (fun i => some (i * n, n)) (rep (cellsL z) len) ps) fun cs => .new e true cs true false fun k => .ret (.slice (some ⟨k, 0, none⟩) len (capOf len true)))
def fieldAddrA (E : Env) (t : TypeId) (x : Value) (f : Nat) : Prog :=
  match E.und t, x with
  | some (.struct fs), .pointer (some a) => opt (fs[f]?) fun fd => (match E.size fd.type with
    | some (_ + 1) => .ret (.pointer (some ⟨a.block, Nat.add a.off fd.offset, none⟩))
    | _ => .fail)
  | _, _ => .fail
def fieldA (E : Env) (t : TypeId) (x : Value) (f : Nat) : Prog :=
  match E.und t, x with
  | some (.struct fs), .agg cs => opt (fs[f]?) fun fd => opt (part E fd.type cs.toList fd.offset) .ret
  | _, _ => .fail
def indexAddrA (E : Env) (t : TypeId) (x i : Value) : Prog :=
  opt (natOf i) fun i => (match E.und t, x with
    | some (.slice e), .slice (some a) len _ => opt (E.size e) fun sz => gd (Nat.blt i len && Nat.blt 0 sz) (.ret (.pointer (some ⟨a.block, Nat.add a.off (Nat.mul i sz), none⟩)))
    | some (.array len e), .pointer (some a) => opt (E.size e) fun sz => gd (Nat.blt i len && Nat.blt 0 sz) (.ret (.pointer (some ⟨a.block, Nat.add a.off (Nat.mul i sz), none⟩)))
    | _, _ => .fail)
def indexOp (E : Env) (t : TypeId) (x i : Value) : Prog :=
  opt (natOf i) fun i => (match E.und t, x with
    | some .string, .string b => opt (b.data.toList[i]?) fun c => .ret (.int .u8 c.toNat)
    | some (.array len e), .agg cs => opt (E.size e) fun sz => gd (Nat.blt i len) (opt (part E e cs.toList (Nat.mul i sz)) .ret)
    | _, _ => .fail)
def typeAssertA (E : Env) (x : Value) (a : TypeId) (ok : Bool) : Prog :=
  opt (E.und a) fun d => (match d with
    | .interface _ => .fail
    | _ => (match x with
      | .iface t v => (match Nat.beq t a with
        | true => .ret (okV ok v true)
        | false => gd ok (opt (E.zero a) fun z => .ret (okV ok z false)))
      | .nilIface => gd ok (opt (E.zero a) fun z => .ret (okV ok z false))
      | _ => .fail))
def plainOp (E : Env) (ρ : Operand → Value) (op : Op) : Prog :=
  match op with
  | .move x | .assign x => .ret (ρ x)
  | .pick c a b => (match ρ c with | .bool true => .ret (ρ a) | .bool false => .ret (ρ b) | _ => .fail)
  | .alloc e => opt (E.zero e) fun z => .new e true (cellsL z) true false fun k => .ret (itP k)
  | .box e x => opt (E.size e) fun n => gd (Nat.beq (cellsL (ρ x)).length n) (.new e true (cellsL (ρ x)) true false fun k => .ret (itP k))
  | .build t parts => buildA E t (parts.toList.map fun (i, x) => (i, ρ x))
  | .buildSlice t len parts => buildSliceA E t len (parts.toList.map fun (i, x) => (i, ρ x))
  | .load t a => (match ρ a with | .pointer (some a) => loadT E t a.block a.off | _ => .fail)
  | .store t a x => (match ρ a with
    | .pointer (some a) => storeT E t a.block a.off (ρ x)
    | _ => .fail)
  | .nilCheck x => (match ρ x with
    | .pointer (some a) => .ret (.pointer (some a))
    | .iface t v => .ret (.iface t v)
    | .func (.func f) a b => .ret (.func (.func f) a b)
    | .func (.yield l) a b => .ret (.func (.yield l) a b)
    | _ => .fail)
  | .binOp op t x y _ => opt (binA E op t x y (ρ x) (ρ y)) .ret
  | .unOp op _ x => opt (unA op (ρ x)) .ret
  | .convert a b x => convA E a b (ρ x)
  | .makeInterface t x => opt (E.und t) fun d => (match d with
    | .interface _ => .fail
    | _ => .ret (.iface t (ρ x)))
  | .makeFunc fn first captured => (match fn with | .func f => .ret (.func (.func f) (first.map ρ) (captured.map ρ)) | _ => .fail)
  | .makeMap _ none => .newObj (.mp [] 0) fun k => .ret (.map (some k))
  | .makeMap t (some h) => opt (mapOf E t) fun _ => (match ρ h with
    | .int _ _ => .newObj (.mp [] 0) fun k => .ret (.map (some k))
    | _ => .fail)
  | .makeSlice t l c => makeSliceA E t (ρ l) (ρ c)
  | .slice t x lo hi mx => sliceA E t (ρ x) (lo.map ρ) (hi.map ρ) (mx.map ρ)
  | .fieldAddr t x f => fieldAddrA E t (ρ x) f
  | .field t x f => fieldA E t (ρ x) f
  | .indexAddr t x i => indexAddrA E t (ρ x) (ρ i)
  | .index t x i => indexOp E t (ρ x) (ρ i)
  | .lookup t x k ok => lookupA E t (ρ x) (ρ k) ok
  | .mapUpdate t m k v | .insert t m k v => mapSet E t (ρ m) (ρ k) (ρ v)
  | .mapEntry t m k => mapEntryA E t (ρ m) (ρ k)
  | .entryStore _ m st v => entryStoreA (ρ m) (ρ st) (ρ v)
  | .range t x => rangeA E t (ρ x)
  | .next x str => nextA (ρ x) str
  | .entry x => entryA (ρ x)
  | .typeAssert x _ a ok => typeAssertA E (ρ x) a ok
  | .extract x i => (match ρ x with
    | .tuple vs => opt (vs.toList[i]?) .ret
    | _ => .fail)
  | _ => .fail
end Go.Ev
