/- The evaluator's operations. -/
import Derived.Test.YtpljgnjdlciicaaGreatDoorLyKQ1
import GoSem.Core.Layout
namespace Go.Ev
open Go
noncomputable section

def U : Value := .tuple #[]
def vInt (n : Int) : Value := .int .i64 n
def isAggD : TypeDesc → Bool
  | .struct _ | .array _ _ => true
  | _ => false

def loadT (E : Env) (t b o : Nat) : Prog :=
  match E.und t with
  | some d => (match isAggD d with
    | true => opt (E.size t) fun n => .rd b n o fun vs => .ret (.agg ⟨vs⟩)
    | false => .rd b 1 o fun vs => (match vs with | [v] => .ret v | _ => .fail))
  | none => .fail
/-- At a place within a list. -/
def loadE (E : Env) (t : TypeId) (cs : List Value) : Prog :=
  match E.und t with
  | some d => (match isAggD d with
    | true => opt (E.size t) fun n => gd (Nat.ble n cs.length) (.ret (.agg ⟨cs.take n⟩))
    | false => gd (Nat.blt 0 cs.length) (.ret (cs.headD U)))
  | none => .fail
def storeT (E : Env) (t b o : Nat) (v : Value) : Prog :=
  opt (E.size t) fun n => gd (Nat.beq (cellsL v).length n) (.wr b o (cellsL v) (.ret U))
/-! Integers. -/
def arith (op : BinOp) (k : IntKind) (x y : Int) : Option Value :=
  match op with
  | .add => some (.int k (k.wrap (x + y)))
  | .sub => some (.int k (k.wrap (x - y)))
  | .mul => some (.int k (k.wrap (x * y)))
  | .quo => if y = 0 then none else some (.int k (k.wrap (x.tdiv y)))
  | .rem => if y = 0 then none else some (.int k (x.tmod y))
  | .and => some (.int k (k.wrap ((BitVec.ofInt k.bits x) &&& (BitVec.ofInt k.bits y)).toNat))
  | .or => some (.int k (k.wrap ((BitVec.ofInt k.bits x) ||| (BitVec.ofInt k.bits y)).toNat))
  | .xor => some (.int k (k.wrap ((BitVec.ofInt k.bits x) ^^^ (BitVec.ofInt k.bits y)).toNat))
  | .andNot => some (.int k (k.wrap ((BitVec.ofInt k.bits x) &&& ~~~(BitVec.ofInt k.bits y)).toNat))
  | .eql => some (.bool (x == y))
  | .neq => some (.bool (x != y))
  | .lss => some (.bool (x < y))
  | .leq => some (.bool (x ≤ y))
  | .gtr => some (.bool (x > y))
  | .geq => some (.bool (x ≥ y))
  | _ => none
def shiftA (op : BinOp) (k : IntKind) (x y : Int) : Option Value :=
  if y < 0 then none else
  match op with
  | .shl => some (.int k (k.wrap (x * 2 ^ (min y.toNat k.bits))))
  | .shr => some (.int k (x.fdiv (2 ^ (min y.toNat k.bits))))
  | _ => none
def strOp (op : BinOp) (x y : ByteArray) : Option Value :=
  match op with
  | .add => (match Nat.ble (Nat.add x.data.toList.length y.data.toList.length) 9223372036854775807 with
    | true => some (.string (mkStr (x.data.toList ++ y.data.toList)))
    | false => none)
  | .eql => some (.bool (beqB x.data.toList y.data.toList))
  | .neq => some (.bool (!beqB x.data.toList y.data.toList))
  | .lss => some (.bool (lessB x.data.toList y.data.toList))
  | .leq => some (.bool (lessB x.data.toList y.data.toList || beqB x.data.toList y.data.toList))
  | .gtr => some (.bool (!(lessB x.data.toList y.data.toList || beqB x.data.toList y.data.toList)))
  | .geq => some (.bool (!lessB x.data.toList y.data.toList))
  | _ => none

/-- The same, with what must be so ahead of it. -/
def arithP (op : BinOp) (k : IntKind) (x y : Int) : Prog :=
  match op with
  | .quo => gd (decide (y ≠ 0)) (.ret (.int k (k.wrap (x.tdiv y))))
  | .rem => gd (decide (y ≠ 0)) (.ret (.int k (x.tmod y)))
  | op => opt (arith op k x y) .ret
def shiftP (op : BinOp) (k : IntKind) (x y : Int) : Prog :=
  match op with
  | .shl => gd (decide (0 ≤ y)) (.ret (.int k (k.wrap (x * 2 ^ (min y.toNat k.bits)))))
  | .shr => gd (decide (0 ≤ y)) (.ret (.int k (x.fdiv (2 ^ (min y.toNat k.bits)))))
  | _ => .fail
def strOpP (op : BinOp) (x y : ByteArray) : Prog :=
  match op with
  | .add => gd (Nat.ble (Nat.add x.data.toList.length y.data.toList.length) 9223372036854775807) (.ret (.string (mkStr (x.data.toList ++ y.data.toList))))
  | op => opt (strOp op x y) .ret
/-- Are two values of a type equal? -/
def eqV (E : Env) : (d : Nat) → TypeId → Value → Value → Option Bool
  | 0, _, _, _ => none
  | d + 1, t, x, y =>
    match E.und t, x, y with
    | some .bool, .bool a, .bool b => some (a == b)
    | some (.int _), .int k a, .int k' b => if k = k' then some (a == b) else none
    | some .string, .string a, .string b => some (beqB a.data.toList b.data.toList)
    | some (.pointer _), .pointer none, .pointer b => some b.isNone
    | some (.pointer _), .pointer _, .pointer none => some false
    | some (.pointer e), .pointer (some a), .pointer (some b) =>
      (match E.size e with
      | some (_ + 1) => (match Nat.beq a.block b.block && Nat.beq a.off b.off with | true => some true | false => none)
      | _ => none)
    | some (.interface _), .nilIface, .nilIface => some true
    | some (.interface _), .nilIface, .iface t _ => (match Nat.blt t LF with | true => some false | false => none)
    | some (.interface _), .iface t _, .nilIface => (match Nat.blt t LF with | true => some false | false => none)
    | some (.interface _), .iface tx vx, .iface ty vy => match Nat.blt tx LF && Nat.blt ty LF with
      | false => none
      | true =>
      (match Nat.beq tx ty with
      | false => some false
      | true => match E.ty.get tx with
        | some i => (match i.comparable with | true => eqV E d tx vx vy | false => none)
        | none => none)
    | some (.slice _), .slice none _ _, .slice b _ _ => some b.isNone
    | some (.slice _), .slice _ _ _, .slice none _ _ => some false
    -- a list of which a part is known is not nil
    | some (.slice _), .iface t (.agg ⟨_ :: _⟩), .slice none _ _ => (match Nat.beq t LF with | true => some false | false => none)
    | some (.map _ _), .map none, .map b => some b.isNone
    | some (.map _ _), .map _, .map none => some false
    | some (.func _ _ _), .nilFunc, .nilFunc => some true
    | some (.func _ _ _), .nilFunc, .func _ _ _ => some false
    | some (.func _ _ _), .func _ _ _, .nilFunc => some false
    | _, _, _ => none
def isConstO : Operand → Bool
  | .const _ => true
  | _ => false
/-- What must be sure ahead of '==' and '!='. -/
def guardOk (x y : Operand) (a b : Value) : Bool :=
  match a, b with
  | .nilIface, .nilIface => isConstO x || isConstO y
  | .agg _, .agg _ => false
  | _, _ => true
def binA (E : Env) (op : BinOp) (t : TypeId) (xo yo : Operand) (x y : Value) : Option Value :=
  match op, x, y with
  | .shl, .int k a, .int _ b => shiftA .shl k a b
  | .shr, .int k a, .int _ b => shiftA .shr k a b
  | op, .int k a, .int k' b => if k = k' then arith op k a b else none
  | op, .string a, .string b => strOp op a b
  | .eql, x, y => (match guardOk xo yo x y with
    | true => (match eqV E 50 t x y with | some b => some (.bool b) | none => none)
    | false => none)
  | .neq, x, y => (match guardOk xo yo x y with
    | true => (match eqV E 50 t x y with | some b => some (.bool (!b)) | none => none)
    | false => none)
  | _, _, _ => none
def binP (E : Env) (op : BinOp) (t : TypeId) (xo yo : Operand) (x y : Value) : Prog :=
  match op, x, y with
  | .shl, .int k a, .int _ b => shiftP .shl k a b
  | .shr, .int k a, .int _ b => shiftP .shr k a b
  | op, .int k a, .int k' b => (match decide (k = k') with | true => arithP op k a b | false => .fail)
  | op, .string a, .string b => strOpP op a b
  | op, x, y => opt (binA E op t xo yo x y) .ret
def unA (op : UnOp) (x : Value) : Option Value :=
  match op, x with
  | .neg, .int k n => arith .sub k 0 n
  | .xor, .int k n => arith .xor k (if k.signed then -1 else k.max) n
  | .not, .bool b => some (.bool !b)
  | _, _ => none

/-! Rows. -/
def natOf : Value → Option Nat
  | .int _ (.ofNat n) => some n
  | _ => none
def natP (v : Value) (k : Nat → Prog) : Prog :=
  match v with
  | .int _ n => gd (decide (0 ≤ n)) (k n.toNat)
  | _ => .fail
def natOr (d : Nat) : Option Value → Option Nat
  | some v => natOf v
  | none => some d
def natOrP (d : Nat) (o : Option Value) (k : Nat → Prog) : Prog :=
  match o with
  | some v => natP v k
  | none => k d
/-- The first of a list's parts has so many cells (then each has). -/
def hdOk (sz : Nat) : List Value → Bool
  | [] => true
  | e :: _ => Nat.beq (cellsL e).length sz
def elemOfSlice (E : Env) (t : TypeId) : Option TypeId := match E.und t with | some (.slice e) => some e | _ => none
def ptrElem (E : Env) (t : TypeId) : Option TypeId := match E.und t with | some (.pointer e) => some e | _ => none
def part (E : Env) (t : TypeId) (cs : List Value) (off : Nat) : Option Value :=
  match E.und t with
  | some d => (match isAggD d with
    | true => (match E.size t with | some n => some (.agg ⟨(cs.drop off).take n⟩) | none => none)
    | false => cs[off]?)
  | none => none
def arrOf (E : Env) (t : TypeId) : Option (Nat × TypeId) :=
  match E.und t with
  | some (.pointer arr) => (match E.und arr with | some (.array n e) => some (n, e) | _ => none)
  | some (.array n e) => some (n, e)
  | _ => none
def sliceA (E : Env) (t : TypeId) (x : Value) (lo hi mx : Option Value) : Prog :=
  natOrP 0 lo fun l =>
  match isL x with
  | true => (match E.und t with
    | some (.slice e) => opt (E.size e) fun sz => natOrP (elems x).length hi fun h => (match mx with
      | none => gd (hdOk sz (elems x) && Nat.ble l h && Nat.ble h (elems x).length) (.ret (lstV (((elems x).drop l).take (Nat.sub h l))))
      | some m => natP m fun m => gd hi.isSome (gd (hdOk sz (elems x) && Nat.beq m h && Nat.ble l h && Nat.ble h (elems x).length) (.ret (xlstV (((elems x).drop l).take (Nat.sub h l))))))
    | _ => .fail)
  | false =>
  match x with
  | .string str => (match E.und t, mx with
    | some .string, none => natOrP str.data.toList.length hi fun h =>
      gd (Nat.ble l h && Nat.ble h str.data.toList.length) (.ret (.string (mkStr ((str.data.toList.drop l).take (Nat.sub h l)))))
    | _, _ => .fail)
  | .slice a len c => (match E.und t with
    | some (.slice e) => natOrP len hi fun h => opt (E.size e) fun sz =>
      (match a with
      | none => gd (Nat.beq l 0 && Nat.beq h 0 && Nat.beq len 0 && mx.isNone) (.ret (.slice none 0 0))
      | some a => (match mx with
        | none => gd (Nat.ble l h && Nat.ble h (capLo c)) (match capEx c with
          | true => (match Nat.beq (capLo c) l with
            | true => .ret (.slice (some a) 0 (capOf 0 true))
            | false => .ret (.slice (some ⟨a.block, a.off + l * sz, none⟩) (h - l) (capOf (capLo c - l) true)))
          | false => .hd a.block fun hd => gd (Nat.beq hd.el e) (.ret (.slice (some ⟨a.block, a.off + l * sz, none⟩) (h - l) (capOf (capLo c - l) false))))
        | some m => natP m fun m => gd hi.isSome <|
          gd (Nat.ble l h && Nat.ble h m && Nat.ble m (capLo c)) (match Nat.beq m l with
            | true => .ret (.slice (some a) 0 (capOf 0 true))
            | false => .ret (.slice (some ⟨a.block, a.off + l * sz, none⟩) (h - l) (capOf (m - l) true)))))
    | _ => .fail)
  | .pointer (some a) => (match arrOf E t, mx with
    | some (n, e), none => natOrP n hi fun h => opt (E.size e) fun sz =>
      gd (Nat.ble l h && Nat.ble h n && Nat.blt l n) (.ret (.slice (some ⟨a.block, a.off + l * sz, none⟩) (h - l) (capOf (n - l) true)))
    | _, _ => .fail)
  | _ => .fail
def rep (z : List Value) : Nat → List Value
  | 0 => []
  | n + 1 => z ++ rep z n
def makeSliceA (E : Env) (t : TypeId) (l c : Value) : Prog :=
  opt (elemOfSlice E t) fun e => natP l fun l => natP c fun c => opt (E.zero e) fun z => opt (E.bytes e) fun b =>
  gd (decide (l ≤ c ∧ b * c ≤ 1099511627776 ∧ c ≤ 1099511627776))
    (.new e true (rep (cellsL z) c) true false fun k => .ret (.slice (some ⟨k, 0, none⟩) l (capOf c true)))
/-- The cells of a slice's, or a string's, first so many elements. -/
def firstA (sz n : Nat) (x : Value) (k : List Value → Prog) : Prog :=
  match x with
  | .slice (some a) _ _ => .rd a.block (n * sz) a.off k
  | .slice none _ _ => k []
  | .string str => gd (Nat.beq sz 1) (k ((str.data.toList.take n).map (fun b => .int .u8 b.toNat)))
  | v => (match isL v with
    | true => gd (hdOk sz (elems v)) (k (flatC ((elems v).take n)))
    | false => .fail)
def lenA : Value → Option Nat
  | .slice _ n _ => some n
  | .string s => some s.data.toList.length
  | v => (match isL v with
    | true => some (elems v).length
    | false => none)
def isIntD : TypeDesc → Bool
  | .int _ => true
  | _ => false
/-- What is appended: so many zeros ('append(s, make([]T, n)...)'), or a slice's or a string's elements. -/
def appN (d : Bool) (x : Value) : Option Nat :=
  match d with
  | true => natOf x
  | false => lenA x
def appC (E : Env) (d : Bool) (e sz n : Nat) (x : Value) (k : List Value → Prog) : Prog :=
  match d with
  | true => opt (E.zero e) fun z => k (rep (cellsL z) n)
  | false => firstA sz n x k
def appendB (E : Env) (t tx : TypeId) (base : Option Addr) (len c : Nat) (x : Value) : Prog :=
    opt (elemOfSlice E t) fun e => opt (E.und tx) fun d => opt (E.size e) fun sz => opt (E.bytes e) fun by_ => opt (appN (isIntD d) x) fun n =>
    opt (E.zero e) fun _ => gd (decide ((len + n) * (by_ + 1) ≤ 1099511627776)) (match base with
    | none => (match n with
      | 0 => .ret (.slice none 0 0)
      | n + 1 => appC E (isIntD d) e sz (n + 1) x fun new => .new e false new true false fun k => .ret (.slice (some ⟨k, 0, none⟩) (n + 1) (capOf (n + 1) false)))
    | some a => (match Nat.ble (len + n) (capLo c) with
      | true => appC E (isIntD d) e sz n x fun new => (match n with
        | 0 => .ret (.slice (some a) len c)
        | n + 1 => .wr a.block (a.off + len * sz) new (.ret (.slice (some a) (len + (n + 1)) c)))
      | false => (match capEx c with
        | true => .rd a.block (len * sz) a.off fun old => appC E (isIntD d) e sz n x fun new =>
          .new e false (old ++ new) true false fun k => .ret (.slice (some ⟨k, 0, none⟩) (len + n) (capOf (len + n) false))
        -- to the end of what is known, not moved yet, not read only, nothing frozen that is not below
        | false => .hd a.block fun h =>
          gd (decide (h.el = e ∧ a.off + len * sz = h.n ∧ h.mv = false ∧ h.ro = false ∧ h.ex = false ∧ h.fz ≤ len * sz + n * sz))
            (.rd a.block (len * sz) a.off fun old => appC E (isIntD d) e sz n x fun new => gd (new.all oneC)
              (.setHd a.block ⟨h.n, h.el, h.ro, h.ex, h.z, h.fz, h.sy, true, []⟩
                (.newH ⟨len * sz + n * sz, e, false, false, h.z && Nat.beq a.off 0, h.fz, h.sy, false, a.block :: h.olds⟩ (old ++ new)
                  fun k => .ret (.slice (some ⟨k, 0, none⟩) (len + n) (capOf (len + n) false))))))))
/-- To a list without room: it is copied. -/
def appendX (E : Env) (t tx : TypeId) (es : List Value) (x : Value) : Prog :=
  opt (elemOfSlice E t) fun e => opt (E.und tx) fun d => opt (E.size e) fun sz => opt (E.bytes e) fun by_ => opt (appN (isIntD d) x) fun n =>
  opt (E.zero e) fun _ => gd (hdOk sz es && decide ((es.length + n) * (by_ + 1) ≤ 1099511627776)) (match n with
    | 0 => .ret (xlstV es)
    | n + 1 => appC E (isIntD d) e sz (n + 1) x fun new => .new e false (flatC es ++ new) true false fun k => .ret (.slice (some ⟨k, 0, none⟩) (es.length + (n + 1)) (capOf (es.length + (n + 1)) false)))
def appendA (E : Env) (ts : List TypeId) (args : List Value) : Prog :=
  match ts, args with
  | [t, tx], [.slice base len c, x] => appendB E t tx base len c x
  | [t, tx], [z, x] => (match isXl z with | true => appendX E t tx (elems z) x | false => .fail)
  | _, _ => .fail
def copyA (E : Env) (ts : List TypeId) (args : List Value) : Prog :=
  match ts, args with
  | t :: _, [.slice base len _, x] =>
    opt (elemOfSlice E t) fun e => opt (E.size e) fun sz => opt (lenA x) fun m =>
    firstA sz (min m len) x fun cs => (match base with
      | none => .ret (vInt (min m len))
      | some a => (match min m len with
        | 0 => .ret (vInt 0)
        | n + 1 => .wr a.block a.off cs (.ret (vInt (n + 1)))))
  | _, _ => .fail

/-! Maps with plain keys. -/
def keyNow (d : TypeDesc) (a b : Value) : Option Bool :=
  match d, a, b with
  | .int _, .int k x, .int k' y => if k = k' then some (x == y) else none
  | .string, .string x, .string y => some (beqB x.data.toList y.data.toList)
  | .bool, .bool x, .bool y => some (x == y)
  | _, _, _ => none
def findK (d : TypeDesc) (k : Value) : List MapEntry → Nat → Option (Option (Nat × MapEntry))
  | [], _ => some none
  | e :: es, i =>
    match keyNow d k e.key with
    | some true => some (some (i, e))
    | some false => findK d k es (Nat.add i 1)
    | none => none
def plainKey : TypeDesc → Value → Bool
  | .int _, .int _ _ | .string, .string _ | .bool, .bool _ => true
  | _, _ => false
def setAt (es : List MapEntry) : Nat → MapEntry → List MapEntry
  | i, e => match es with
    | [] => []
    | x :: xs => match i with
      | 0 => e :: xs
      | j + 1 => x :: setAt xs j e
def mapOf (E : Env) (t : TypeId) : Option (TypeId × TypeId) := match E.und t with | some (.map k e) => some (k, e) | _ => none
def entsOf : Slot → Option (List MapEntry × Nat)
  | .mp es c => some (es, c)
  | _ => none
def okV (ok : Bool) (v : Value) (b : Bool) : Value := match ok with | true => .tuple #[v, .bool b] | false => v
def lookupA (E : Env) (t : TypeId) (x k : Value) (ok : Bool) : Prog :=
  opt (mapOf E t) fun kt => opt (E.und kt.1) fun d => gd (plainKey d k) (opt (E.zero kt.2) fun z => match x with
    | .map none => .ret (okV ok z false)
    | .map (some m) => .obj m fun o => opt (entsOf o) fun ec => opt (findK d k ec.1 0) fun r => (match r with
      | some e => .ret (okV ok e.2.val true)
      | none => .ret (okV ok z false))
    | _ => .fail)
def mapSet (E : Env) (t : TypeId) (x k v : Value) : Prog :=
  match x with
  | .map (some m) => opt (mapOf E t) fun kt => opt (E.und kt.1) fun d => gd (plainKey d k) (.obj m fun o => opt (entsOf o) fun ec => opt (findK d k ec.1 0) fun r => match r with
    | some e => .setObj m (.mp (setAt ec.1 e.1 { e.2 with key := k, val := v }) ec.2) (.ret U)
    | none => .setObj m (.mp (ec.1 ++ [{ key := k, val := v, born := ec.2 }]) (Nat.add ec.2 1)) (.ret U))
  | _ => .fail
def mapEntryA (E : Env) (t : TypeId) (x k : Value) : Prog :=
  match x with
  | .map (some m) => opt (mapOf E t) fun kt => opt (E.und kt.1) fun d => opt (E.zero kt.2) fun z => gd (plainKey d k) (.obj m fun o => opt (entsOf o) fun ec => opt (findK d k ec.1 0) fun r => match r with
    | some e => .setObj m (.mp (setAt ec.1 e.1 { e.2 with key := k }) ec.2) (.ret (.tuple #[e.2.val, vInt e.2.born]))
    | none => .setObj m (.mp (ec.1 ++ [{ key := k, val := z, born := ec.2 }]) (Nat.add ec.2 1)) (.ret (.tuple #[z, vInt ec.2])))
  | _ => .fail
def findBorn (n : Nat) : List MapEntry → Nat → Option (Nat × MapEntry)
  | [], _ => none
  | e :: es, i => if Nat.beq e.born n then some (i, e) else findBorn n es (Nat.add i 1)
def entryStoreA (x stamp v : Value) : Prog :=
  match x with
  | .map (some m) => opt (natOf stamp) fun n => .obj m fun o => opt (entsOf o) fun ec => opt (findBorn n ec.1 0) fun e =>
      .setObj m (.mp (setAt ec.1 e.1 { e.2 with val := v }) ec.2) (.ret U)
  | _ => .fail
def deleteA (E : Env) (ts : List TypeId) (args : List Value) : Prog :=
  match ts, args with
  | t :: _, [.map r, k] => opt (mapOf E t) fun kt => opt (E.und kt.1) fun d => gd (plainKey d k) (match r with
      | none => .ret U
      | some m => .obj m fun o => opt (entsOf o) fun ec => opt (findK d k ec.1 0) fun f => (match f with
        | some e => .setObj m (.mp (ec.1.eraseIdx e.1) ec.2) (.ret U)
        | none => .setObj m (.mp ec.1 ec.2) (.ret U)))
  | _, _ => .fail
def itP (k : Nat) : Value := .pointer (some ⟨k, 0, none⟩)
def rangeA (E : Env) (t : TypeId) (x : Value) : Prog :=
  match E.und t, x with
  | some .string, .string str => .newObj (.sit str 0) fun k => .ret (itP k)
  | some (.map _ _), .map none => .newObj (.mit none 0 [] 0) fun k => .ret (itP k)
  | some (.map _ _), .map (some m) => .obj m fun o => opt (entsOf o) fun ec => .newObj (.mit (some m) ec.2 [] ec.2) fun k => .ret (itP k)
  | _, _ => .fail
def memN (n : Nat) : List Nat → Bool
  | [] => false
  | m :: l => Nat.beq n m || memN n l
def nextA (x : Value) (str : Bool) : Prog :=
  match x with
  | .pointer (some a) => gd (Nat.beq a.off 0) (.obj a.block fun o => (match o, str with
    | .mit none _ _ _, false => .ret (.tuple #[.bool false])
    | .mit (some m) since seen last, false => .obj m fun o => opt (entsOf o) fun ec =>
      gd (!(!seen.isEmpty && !ec.1.isEmpty && ec.1.all (fun e => Nat.ble last e.born)))
        (match ec.1.filter (fun e => !memN e.born seen) with
        | [] => .ret (.tuple #[.bool false])
        | [e] => gd (Nat.blt e.born since) (.setObj a.block (.mit (some m) since (seen ++ [e.born]) ec.2) (.ret (.tuple #[.bool true, e.key, e.val])))
        | _ => .fail)
    | .sit b pos, true => (match b.data.toList.drop pos with
      | [] => .ret (.tuple #[.bool false])
      | c :: _ => gd (Nat.blt c.toNat 128) (.setObj a.block (.sit b (Nat.add pos 1)) (.ret (.tuple #[.bool true, vInt pos, .int .i32 c.toNat]))))
    | _, _ => .fail))
  | _ => .fail
def entryA (x : Value) : Prog :=
  match x with
  | .pointer (some a) => gd (Nat.beq a.off 0) (.obj a.block fun o => (match o with
    | .mit (some m) _ seen stepped => .obj m fun o => opt (entsOf o) fun ec => opt seen.getLast? fun stamp =>
      gd (Nat.beq ec.2 stepped) (opt (findBorn stamp ec.1 0) fun e => .ret (.tuple #[e.2.key, e.2.val]))
    | _ => .fail))
  | _ => .fail

/-! Conversions. -/
def bytesRd : List Value → Option (List UInt8)
  | [] => some []
  | .int .u8 n :: l => (match bytesRd l with | some r => some (UInt8.ofNat n.toNat :: r) | none => none)
  | _ => none
def u8V : Value → Bool
  | .int .u8 _ => true
  | _ => false
def allU8 : List Value → Bool
  | [] => true
  | v :: vs => u8V v && allU8 vs
def bytesV : List Value → List UInt8
  | [] => []
  | v :: vs => UInt8.ofNat (intOf v).toNat :: bytesV vs
def isU8 (E : Env) (t : TypeId) : Bool := match E.und t with | some (.int .u8) => true | _ => false
def isOne (E : Env) (t : TypeId) : Bool := match E.size t with | some n => Nat.beq n 1 | none => false
def convA (E : Env) (src dst : TypeId) (x : Value) : Prog :=
  opt (E.und src) fun ds => opt (E.und dst) fun dd =>
  match ds, dd, x with
  | .pointer _, .unsafePointer, .pointer none => .ret (.pointer none)
  | .pointer t, .unsafePointer, .pointer (some a) => opt (E.size t) fun n => ck (Nat.blt 0 n) (.hd a.block fun h => gd (Nat.blt a.off h.n) (.ret (.pointer (some a))))
  | .unsafePointer, .pointer _, .pointer none => .ret (.pointer none)
  | .unsafePointer, .pointer u, .pointer (some a) => opt (E.size u) fun n => ck (Nat.blt 0 n) (.hd a.block fun h => opt (E.size h.el) fun sz =>
      gd (h.ex && h.z && liesAt E.P E.P.depth h.el (Nat.div h.n sz) a.off u 1) (.ret (.pointer (some a))))
  | _, .int k, .int _ n => .ret (.int k (k.wrap n))
  | _, .string, .string b => .ret (.string b)
  | _, .slice e, .string b => ck (isU8 E e && isOne E e) (.new e false (b.data.toList.map (fun c => .int .u8 c.toNat)) true true fun k =>
      .ret (.slice (some ⟨k, 0, none⟩) b.data.toList.length (capOf b.data.toList.length false)))
  | .slice _, .slice e, .slice (some a) len c => ck (Nat.beq src dst && isU8 E e) (.hd a.block fun h =>
      gd (decide (h.fz = 0 ∧ h.mv = false ∧ h.ro = false ∧ h.z = true)) (.setHd a.block ⟨h.n, h.el, h.ro, h.ex, h.z, h.fz, true, h.mv, h.olds⟩ (.ret (.slice (some a) len c))))
  | .slice e, .string, .slice a len _ => ck (isU8 E e) (match a with
      | none => .ret (.string (mkStr []))
      | some a => .rd a.block len a.off fun vs => gd (allU8 vs) (.ret (.string (mkStr (bytesV vs)))))
  | .slice e, .string, v => ck (isU8 E e) (match isL v with
      | true => gd (allU8 (elems v)) (.ret (.string (mkStr (bytesV (elems v)))))
      | false => .fail)
  | _, _, _ => .fail

/-! An operation that is no call of a Go function. -/
def maxMin (mx : Bool) : Value → List Value → Option Value
  | x, [] => some x
  | .int k x, .int k' y :: rest => if k = k' then maxMin mx (.int k (if mx then (if x < y then y else x) else (if y < x then y else x))) rest else none
  | _, _ => none
def lenOp (E : Env) (ts : List TypeId) (args : List Value) : Prog :=
  match ts, args with
  | t :: _, [x] => opt (E.und t) fun d => (match d, x with
    | .string, .string str => .ret (vInt str.data.toList.length)
    | .array n _, _ => .ret (vInt n)
    | .slice _, .slice _ n _ => .ret (vInt n)
    | .map _ _, .map none => .ret (vInt 0)
    | .map _ _, .map (some m) => .obj m fun o => opt (entsOf o) fun ec => .ret (vInt ec.1.length)
    | .slice _, v => (match isL v with | true => .ret (vInt (elems v).length) | false => .fail)
    | _, _ => .fail)
  | _, _ => .fail
def capOp (E : Env) (ts : List TypeId) (args : List Value) : Prog :=
  match ts, args with
  | t :: _, [x] => opt (E.und t) fun d => (match d, x with
    | .slice _, .slice none _ _ => .ret (vInt 0)
    | .slice _, .slice (some _) _ c => gd (capEx c) (.ret (vInt (capLo c)))
    | .array n _, _ => .ret (vInt n)
    | _, _ => .fail)
  | _, _ => .fail
def clearOp (E : Env) (ts : List TypeId) (args : List Value) : Prog :=
  match ts, args with
  | t :: _, [.slice a n _] => opt (elemOfSlice E t) fun e => opt (E.zero e) fun z => (match a, n with
    | none, 0 => .ret U
    | some a, n => .wr a.block a.off (rep (cellsL z) n) (.ret U)
    | _, _ => .fail)
  | _, _ => .fail
def builtinA (E : Env) (b : Builtin) (ts : List TypeId) (args : List Value) : Prog :=
  match b with
  | .append => appendA E ts args
  | .len => lenOp E ts args
  | .cap => capOp E ts args
  | .copy => copyA E ts args
  | .delete => deleteA E ts args
  | .clear => clearOp E ts args
  | .unsafeSliceData => (match args with
    | [.slice none _ _] => .ret (.pointer none)
    | [.slice (some a) _ c] => gd (Nat.blt 0 (capLo c)) (.ret (.pointer (some a)))
    | _ => .fail)
  | .unsafeString => (match ts, args with
    | [pt, _], [.pointer p, .int .i64 n] => gd (decide (0 ≤ n) && decide (n ≤ 9223372036854775807)) (.ite (decide (n = 0)) (.ret (.string (mkStr []))) (match p with
      | none => .fail
      | some a => opt (ptrElem E pt) fun e => ck (isOne E e) (.hd a.block fun h => gd (Nat.beq a.off 0 && h.z && !h.mv && !h.ro && !h.sy && Nat.beq h.el e)
        (.rd a.block n.toNat 0 fun vs => gd (allU8 vs) (.setHd a.block ⟨h.n, h.el, h.ro, h.ex, h.z, Nat.max h.fz n.toNat, h.sy, h.mv, h.olds⟩ (.ret (.string (mkStr (bytesV vs)))))))))
    | _, _ => .fail)
  | .max => (match args with | x :: rest => opt (maxMin true x rest) .ret | [] => .fail)
  | .min => (match args with | x :: rest => opt (maxMin false x rest) .ret | [] => .fail)
  | _ => .fail
/-- A cell for each part; the parts in their order. -/
def fillA (place : Nat → Option (Nat × Nat)) : List Value → List (Nat × Value) → Option (List Value)
  | cs, [] => some cs
  | cs, (i, v) :: ps => match place i with
    | some (o, n) => (match Nat.beq (cellsL v).length n && Nat.ble (Nat.add o n) cs.length with
      | true => fillA place (cs.take o ++ cellsL v ++ cs.drop (Nat.add o n)) ps
      | false => none)
    | none => none
def buildA (E : Env) (t : TypeId) (ps : List (Nat × Value)) : Prog :=
  opt (E.zero t) fun z => opt (E.und t) fun d => (match d with
    | .struct fs => gd (fs.all (fun f => (E.size f.type).isSome)) (opt (fillA (fun i => (fs[i]?).bind fun f => (E.size f.type).map fun n => (f.offset, n)) (cellsL z) ps) fun cs => .ret (.agg ⟨cs⟩))
    | .array _ e => opt (E.size e) fun n => opt (fillA (fun i => some (i * n, n)) (cellsL z) ps) fun cs => .ret (.agg ⟨cs⟩)
    | _ => .fail)
/-! What is handed over stands for itself: lists are no places. -/
def slOf (E : Env) (t : TypeId) : Option TypeId := match E.und t with | some (.slice e) => some e | _ => none
/-- The types of a value's cells: of those that may be lists. -/
def slots (E : Env) : (d : Nat) → TypeId → List (Option TypeId)
  | 0, _ => []
  | d + 1, t => match E.und t with
    | some (.struct fs) => fs.toList.flatMap fun f => slots E d f.type
    | some (.array n e) => (List.replicate n ()).flatMap fun _ => slots E d e
    | _ => [slOf E t]
def anySome : List (Option TypeId) → Bool
  | [] => false
  | some _ :: _ => true
  | none :: l => anySome l
def isOneT (E : Env) (t : TypeId) : Bool := match E.und t with | some d => !isAggD d | none => false
def frzGo (f : TypeId → Value → (Value → Prog) → Prog) : List (Option TypeId) → List Value → (List Value → Prog) → Prog
  | [], vs, k => (match vs with | [] => k [] | _ => .fail)
  | s :: ss, vs, k => match vs with
    | [] => .fail
    | v :: vs => match s with
      | none => frzGo f ss vs fun r => k (v :: r)
      | some e => f e v fun v => frzGo f ss vs fun r => k (v :: r)
/-- One list: its parts are made to stand for themselves too. -/
def frzL (E : Env) : (d : Nat) → (e : TypeId) → (v : Value) → (Value → Prog) → Prog
  | 0, _, _, _ => .fail
  | d + 1, e, v, k =>
    match v with
    | .iface t (.agg ⟨es⟩) => (match Nat.beq t LF with
      | true => k (.iface t (.agg ⟨es⟩))
      | false => match Nat.beq t LZ with
        | true => k (lstV es)
        | false => .fail)
    | .slice none _ _ => k (lstV [])
    | .slice (some a) n _ => (match Nat.beq n 0 with
      | true => k (lstV [])
      | false => opt (E.size e) fun sz => ck (Nat.blt 0 sz) (.frz a.block (Nat.mul n sz) a.off fun vs =>
        match slots E 20 e with
        | ss => ck (Nat.beq ss.length sz) (match anySome ss with
          | false => k (lstV (chunkC (isOneT E e) sz n vs))
          | true => frzGo (frzL E d) ((List.replicate n ()).flatMap fun _ => ss) vs fun vs => k (lstV (chunkC (isOneT E e) sz n vs)))))
    | _ => .fail
/-- A value of a type. -/
def frzT (E : Env) (t : TypeId) (v : Value) (k : Value → Prog) : Prog :=
  match E.und t with
  | some (.slice e) => frzL E 20 e v k
  | some (.struct _) => (match anySome (slots E 20 t) with
      | false => k v
      | true => match v with
        | .agg ⟨vs⟩ => frzGo (frzL E 20) (slots E 20 t) vs fun vs => k (.agg ⟨vs⟩)
        | _ => .fail)
  | _ => k v
def frzPs (E : Env) (e : TypeId) : List (Nat × Value) → (List (Nat × Value) → Prog) → Prog
  | [], k => k []
  | (i, v) :: ps, k => frzT E e v fun v => frzPs E e ps fun r => k ((i, v) :: r)
def frzAs (E : Env) (m : Nat) : (i : Nat) → List TypeId → List Value → (List Value → Prog) → Prog
  | _, [], vs, k => k vs
  | i, t :: ts, vs, k => match vs with
    | [] => k []
    | v :: vs => match Nat.testBit m i with
      | true => frzAs E m (Nat.add i 1) ts vs fun r => k (v :: r)
      | false => frzT E t v fun v => frzAs E m (Nat.add i 1) ts vs fun r => k (v :: r)

/-- A list of these parts (zeros where there is none). -/
def placeL (sz : Nat) (zs : List Value) : List (Nat × Value) → Option (List Value)
  | [] => some zs
  | (i, v) :: ps => match Nat.blt i zs.length && Nat.beq (cellsL v).length sz with
    | true => placeL sz (zs.set i v) ps
    | false => none
/-- A slice of slices as a literal: a row. -/
def rowSliceA (E : Env) (t : TypeId) (len : Nat) (ps : List (Nat × Value)) : Prog :=
  opt (elemOfSlice E t) fun e => opt (E.size e) fun n => ck (Nat.ble (len * n) 4096) (opt (E.zero e) fun z =>
    opt (placeL n (List.replicate len z) ps) fun es => ck (Nat.beq (cellsL z).length n) (.new e true (flatC es) true false fun k => .ret (.slice (some ⟨k, 0, none⟩) len (capOf len true))))
/-- Are a slice's elements slices? -/
def slElem (E : Env) (t : TypeId) : Bool := match elemOfSlice E t with
  | some e => (match E.und e with
    | some (.slice _) => true
    | _ => false)
  | none => false
def buildSliceA (E : Env) (t : TypeId) (len : Nat) (ps : List (Nat × Value)) : Prog := match slElem E t with
  | true => rowSliceA E t len ps
  | false =>
    opt (elemOfSlice E t) fun e => opt (E.size e) fun n => ck (Nat.ble (len * n) 4096) (opt (E.zero e) fun z => frzT E e z fun z =>
    frzPs E e ps fun ps => opt (placeL n (List.replicate len z) ps) fun es => ck (Nat.beq (cellsL z).length n) (.ret (xlstV es)))
def fieldAddrA (E : Env) (t : TypeId) (x : Value) (f : Nat) : Prog :=
  match E.und t, x with
  | some (.struct fs), .pointer (some a) => opt (fs[f]?) fun fd => (match E.size fd.type with
    | some (_ + 1) => .ret (.pointer (some ⟨a.block, Nat.add a.off fd.offset, none⟩))
    | _ => .fail)
  | some (.struct fs), v => (match isEp v with
    | true => opt (fs[f]?) fun fd => (match E.size fd.type with
      | some (_ + 1) => gd (Nat.blt fd.offset (elems v).length) (.ret (epV ((elems v).drop fd.offset)))
      | _ => .fail)
    | false => .fail)
  | _, _ => .fail
def fieldA (E : Env) (t : TypeId) (x : Value) (f : Nat) : Prog :=
  match E.und t, x with
  | some (.struct fs), .agg cs => opt (fs[f]?) fun fd => opt (part E fd.type cs.toList fd.offset) .ret
  | _, _ => .fail
def indexAddrA (E : Env) (t : TypeId) (x i : Value) : Prog :=
  natP i fun i => (match isL x with
    | true => (match E.und t with
      | some (.slice e) => opt (E.size e) fun sz => gd (Nat.blt i (elems x).length && Nat.blt 0 sz && hdOk sz (elems x)) (.ret (epV (cellsL (at_ (elems x) i))))
      | _ => .fail)
    | false => (match E.und t, x with
      | some (.slice e), .slice (some a) len _ => opt (E.size e) fun sz => gd (Nat.blt i len && Nat.blt 0 sz) (.ret (.pointer (some ⟨a.block, Nat.add a.off (Nat.mul i sz), none⟩)))
      | some (.array len e), .pointer (some a) => opt (E.size e) fun sz => gd (Nat.blt i len && Nat.blt 0 sz) (.ret (.pointer (some ⟨a.block, Nat.add a.off (Nat.mul i sz), none⟩)))
      | _, _ => .fail))
def byteAt (b : ByteArray) (i : Nat) : Nat := (b.data.toList.getD i 0).toNat
def indexOp (E : Env) (t : TypeId) (x i : Value) : Prog :=
  natP i fun i => (match E.und t, x with
    | some .string, .string b => gd (Nat.blt i b.data.toList.length) (.ret (.int .u8 (byteAt b i)))
    | some (.array len e), .agg cs => opt (E.size e) fun sz => gd (Nat.blt i len) (opt (part E e cs.toList (Nat.mul i sz)) .ret)
    | _, _ => .fail)
def typeAssertA (E : Env) (x : Value) (a : TypeId) (ok : Bool) : Prog :=
  opt (E.und a) fun d => (match d with
    | .interface _ => .fail
    | _ => (match x with
      | .iface t v => ck (Nat.blt t LF) (match Nat.beq t a with
        | true => .ret (okV ok v true)
        | false => gd ok (opt (E.zero a) fun z => .ret (okV ok z false)))
      | .nilIface => gd ok (opt (E.zero a) fun z => .ret (okV ok z false))
      | _ => .fail))
def plainOp (E : Env) (ρ : Operand → Value) (op : Op) : Prog :=
  match op with
  | .move x | .assign x => .ret (ρ x)
  | .pick c a b => (match ρ c with | .bool t => .ite t (.ret (ρ a)) (.ret (ρ b)) | _ => .fail)
  | .alloc e => opt (E.zero e) fun z => .new e true (cellsL z) true false fun k => .ret (itP k)
  | .box e x => opt (E.size e) fun n => gd (Nat.beq (cellsL (ρ x)).length n) (.new e true (cellsL (ρ x)) true false fun k => .ret (itP k))
  | .build t parts => buildA E t (parts.toList.map fun (i, x) => (i, ρ x))
  | .buildSlice t len parts => buildSliceA E t len (parts.toList.map fun (i, x) => (i, ρ x))
  | .load t a => (match ρ a with
    | .pointer (some a) => loadT E t a.block a.off
    | v => (match isEp v with | true => loadE E t (elems v) | false => .fail))
  | .store t a x => (match ρ a with
    | .pointer (some a) => storeT E t a.block a.off (ρ x)
    | _ => .fail)
  | .nilCheck x => (match ρ x with
    | .pointer (some a) => .ret (.pointer (some a))
    | .iface t v => ck (Nat.blt t LF || Nat.beq t LE) (.ret (.iface t v))
    | .func (.func f) a b => .ret (.func (.func f) a b)
    | .func (.yield l) a b => .ret (.func (.yield l) a b)
    | _ => .fail)
  | .binOp op t x y _ => binP E op t x y (ρ x) (ρ y)
  | .unOp op _ x => opt (unA op (ρ x)) .ret
  | .convert a b x => convA E a b (ρ x)
  | .makeInterface t x => opt (E.und t) fun d => (match d with
    | .interface _ => .fail
    | _ => ck (Nat.blt t LF) (.ret (.iface t (ρ x))))
  | .makeFunc fn first captured => (match fn with | .func f => .ret (.func (.func f) (first.map ρ) (captured.map ρ)) | _ => .fail)
  | .makeMap _ none => .newObj (.mp [] 0) fun k => .ret (.map (some k))
  | .makeMap t (some h) => opt (mapOf E t) fun _ => (match ρ h with
    | .int _ _ => .newObj (.mp [] 0) fun k => .ret (.map (some k))
    | _ => .fail)
  | .makeSlice t l c => makeSliceA E t (ρ l) (ρ c)
  | .slice t x lo hi mx => sliceA E t (ρ x) (lo.map ρ) (hi.map ρ) (mx.map ρ)
  | .fieldAddr t x f => fieldAddrA E t (ρ x) f
  | .field t x f => fieldA E t (ρ x) f
  | .indexAddr t x i => indexAddrA E t (ρ x) (ρ i)
  | .index t x i => indexOp E t (ρ x) (ρ i)
  | .lookup t x k ok => lookupA E t (ρ x) (ρ k) ok
  | .mapUpdate t m k v | .insert t m k v => mapSet E t (ρ m) (ρ k) (ρ v)
  | .mapEntry t m k => mapEntryA E t (ρ m) (ρ k)
  | .entryStore _ m st v => entryStoreA (ρ m) (ρ st) (ρ v)
  | .range t x => rangeA E t (ρ x)
  | .next x str => nextA (ρ x) str
  | .entry x => entryA (ρ x)
  | .typeAssert x _ a ok => typeAssertA E (ρ x) a ok
  | .extract x i => (match ρ x with
    | .tuple vs => opt (vs.toList[i]?) .ret
    | _ => .fail)
  | _ => .fail
end
end Go.Ev
