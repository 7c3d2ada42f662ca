/- The evaluator's runs. -/
import Derived.Test.YtpljgnjdlciicaaGreatDoorLyKQ2
namespace Go.Ev
open Go
noncomputable section

/-- A frame's slots: how many there are, of which something is known (as bits), what is in them. -/
structure Tm where
  nt : Nat
  lv : Nat
  t : Tr Value
def Tm.get (tm : Tm) (i : Nat) : Value := match tm.t.get i with | some v => v | none => U
def Tm.set (tm : Tm) (d : Nat) (v : Value) : Tm :=
  match tm with
  | ⟨nt, lv, t⟩ => match Nat.blt d nt with
    | true => ⟨nt, Nat.lor lv (Nat.shiftLeft 1 d), t.set d (some v)⟩
    | false => ⟨nt, lv, t⟩
def evO (tm : Tm) : Operand → Value
  | .tmp t => tm.get t
  | .const v => v
  | .global g => .pointer (some ⟨gbase g, 0, none⟩)
  | .func f => .func (.func f) #[] #[]
def putT (tm : Tm) (d : Option Nat) (v : Value) : Tm :=
  match d with
  | some d => tm.set d v
  | none => tm
def uTree : Nat → Tr Value
  | 0 => .nil
  | d + 1 => match uTree d with | t => .node t (some U) t
def putL : List (Nat × Value) → Tr Value → Tr Value
  | [], t => t
  | (i, v) :: l, t => (putL l t).set i (some v)
def bitsL : List (Nat × Value) → Nat
  | [] => 0
  | (i, _) :: l => Nat.lor (bitsL l) (Nat.shiftLeft 1 i)
/-- A frame of which these slots alone are known. -/
def tmL (n : Nat) (l : List (Nat × Value)) : Tm := ⟨n, bitsL l, putL l (uTree (Nat.add (Nat.log2 n) 1))⟩
/-- These slots stay, if something is known of them; the rest is forgotten. -/
def keepL (tm : Tm) : List Nat → List (Nat × Value)
  | [] => []
  | i :: l => match Nat.testBit tm.lv i with
    | true => (i, tm.get i) :: keepL tm l
    | false => keepL tm l
def keepT (tm : Tm) (l : List Nat) : Tm := tmL tm.nt (keepL tm l)
def liveO (tm : Tm) : Operand → Bool
  | .tmp t => Nat.testBit tm.lv t
  | _ => true
def liveOs (tm : Tm) : List Operand → Bool
  | [] => true
  | x :: l => liveO tm x && liveOs tm l
def liveG (ops : List Oper) (tm : Tm) (o : Oper) : Bool :=
  match o.guard with
  | none => true
  | some (j, _) =>
    match ops[j]? with
    | some oj => (match oj.dst with
      | some d => Nat.testBit tm.lv d
      | none => true)
    | none => true
/-- Nothing that is asked for has been forgotten. -/
def chk (ops : List Oper) (tm : Tm) (o : Oper) : Bool := liveG ops tm o && liveOs tm o.op.operands.toList
def wantedA (ops : List Oper) (tm : Tm) (o : Oper) : Bool :=
  match o.guard with
  | none => true
  | some (j, want) =>
    match ops[j]? with
    | some oj => (match oj.dst with
      | some d => (match tm.get d with
        | .bool b => b == want
        | _ => false)
      | none => false)
    | none => false
/-- An operation that may be left out: what is asked for is known behind it. -/
def guardC (all : List Oper) (tm : Tm) (o : Oper) (A B : Tm → Prog) : Prog :=
  match o.guard with
  | none => A tm
  | some (j, want) =>
    match all[j]? with
    | some oj => (match oj.dst with
      | some d => (match tm.get d with
        | .bool b => (match want with
          | true => cnd (A (putT tm (some d) (.bool true))) (B (putT tm (some d) (.bool false))) b
          | false => cnd (B (putT tm (some d) (.bool true))) (A (putT tm (some d) (.bool false))) b)
        | _ => B tm)
      | none => B tm)
    | none => B tm
def argsT : List Value → Nat → Tr Value → Tr Value
  | [], _, t => t
  | v :: vs, k, t => (argsT vs (Nat.add k 1) t).set k (some v)
/-- A frame's slots, the first of them filled. -/
def frameTm (n : Nat) (args : List Value) : Tm := ⟨n, Nat.sub (Nat.shiftLeft 1 n) 1, argsT args 0 (uTree (Nat.add (Nat.log2 n) 1))⟩

/-- What a call by value comes to: the target and its arguments. -/
def resolveA (ρ : Operand → Value) (c : Call) : Option (Fn × List Value × List Value) :=
  match c.callee with
  | .value f => (match ρ f with
    | .func fn first captured => some (fn, captured.toList, first.toList ++ c.args.toList.map ρ)
    | _ => none)
  | _ => none

/-! What values of a type look like. -/
def kdOf (E : Env) (fz : Bool) (t : TypeId) : Kd :=
  match E.und t with
  | some (.int k) => .int k
  | some .bool => .bool
  | some .string => .str
  | some (.slice _) => (match fz with | true => .lst | false => .raw)
  | _ => .raw
def ksOf (E : Env) (fz : Bool) : (d : Nat) → TypeId → List Kd
  | 0, _ => []
  | d + 1, t => match E.und t with
    | some (.struct fs) => fs.toList.flatMap fun f => ksOf E fz d f.type
    | some (.array n e) => (List.replicate n ()).flatMap fun _ => ksOf E fz d e
    | _ => [kdOf E fz t]
def nm1 (E : Env) (fz : Bool) (t : TypeId) : Nm :=
  match E.und t with
  | some (.struct _) => .agg (ksOf E fz 20 t)
  | some (.array _ _) => .raw
  | _ => .one (kdOf E fz t)
def nmOf (E : Env) (fz : Bool) (t : TypeId) : Nm :=
  match E.und t with
  | some (.tuple es) => .tup (es.toList.map (nm1 E fz))
  | _ => nm1 E fz t
def blkOf : Value → Nat
  | .pointer (some a) => a.block
  | _ => 0
def offOf : Value → Nat
  | .pointer (some a) => a.off
  | _ => 0
def isPt : Value → Bool
  | .pointer (some ⟨_, _, none⟩) => true
  | _ => false
def isSl : Value → Bool
  | .slice (some ⟨_, _, none⟩) _ _ => true
  | _ => false
def sBlk : Value → Nat
  | .slice (some a) _ _ => a.block
  | _ => 0
def sOff : Value → Nat
  | .slice (some a) _ _ => a.off
  | _ => 0
def sLen : Value → Nat
  | .slice _ n _ => n
  | _ => 0
def sCap : Value → Nat
  | .slice _ _ c => c
  | _ => 0
def okK (k : Kd) (v : Value) : Bool :=
  match k with
  | .int k => (match v with | .int k' _ => decide (k = k') | _ => false)
  | .bool => (match v with | .bool _ => true | _ => false)
  | .str => (match v with | .string _ => true | _ => false)
  | .lst => isLst v
  | .ptr => isPt v
  | .row => isSl v
  | .raw => true
def nmK (k : Kd) (v : Value) : Value :=
  match k with
  | .int k => .int k (intOf v)
  | .bool => .bool (boolOf v)
  | .str => .string (strOf v)
  | .lst => lstV (elems v)
  | .ptr => .pointer (some ⟨blkOf v, offOf v, none⟩)
  | .row => .slice (some ⟨sBlk v, sOff v, none⟩) (sLen v) (sCap v)
  | .raw => v
def okKs : List Kd → List Value → Bool
  | [], vs => (match vs with | [] => true | _ => false)
  | k :: ks, vs => (match vs with | [] => false | v :: vs => okK k v && okKs ks vs)
def nmKs : List Kd → Nat → List Value → List Value
  | [], _, _ => []
  | k :: ks, i, vs => nmK k (at_ vs i) :: nmKs ks (Nat.add i 1) vs
def aggOf : Value → List Value
  | .agg ⟨l⟩ => l
  | _ => []
def isAggV : Value → Bool
  | .agg _ => true
  | _ => false
def tupOf : Value → List Value
  | .tuple ⟨l⟩ => l
  | _ => []
def isTupV : Value → Bool
  | .tuple _ => true
  | _ => false
def okN1 (k : Nm) (v : Value) : Bool :=
  match k with
  | .one k => okK k v
  | .agg ks => isAggV v && okKs ks (aggOf v)
  | _ => true
def nmN1 (k : Nm) (v : Value) : Value :=
  match k with
  | .one k => nmK k v
  | .agg ks => .agg ⟨nmKs ks 0 (aggOf v)⟩
  | _ => v
def okNs : List Nm → List Value → Bool
  | [], vs => (match vs with | [] => true | _ => false)
  | k :: ks, vs => (match vs with | [] => false | v :: vs => okN1 k v && okNs ks vs)
def nmNs : List Nm → Nat → List Value → List Value
  | [], _, _ => []
  | k :: ks, i, vs => nmN1 k (at_ vs i) :: nmNs ks (Nat.add i 1) vs
/-- A value in the form that its type has. -/
def nmP (k : Nm) (v : Value) (c : Value → Prog) : Prog :=
  match k with
  | .raw | .one .raw => c v
  | .tup ks => gc (isTupV v && okNs ks (tupOf v)) (c (.tuple ⟨nmNs ks 0 (tupOf v)⟩))
  | k => gc (okN1 k v) (c (nmN1 k v))
def lastBit (m : Nat) : Bool := Nat.testBit m 60
/-- In which form an operation's value is told. -/
def shpOf (E : Env) (fn : Nat) : Option Nat → Option Nm
  | some d => E.shp fn d
  | none => none
def nmFor (E : Env) (fn : Nat) (ρ : Operand → Value) (o : Oper) : Nm :=
  match E.nm with
  | false => .raw
  | true => match shpOf E fn o.dst with
  | some k => k
  | none => match o.op with
    | .call c => (match c.callee with
      | .value f => (match f with
        | .func g => (match lastBit (E.raw g) with
          | true => .raw
          | false => nmOf E true o.type)
        | _ => nmOf E true o.type)
      | .builtin b => (match b with
        | .len | .cap | .copy => .one (.int .i64)
        | _ => .raw)
      | _ => .raw)
    | .load t a => nmOf E (isEp (ρ a)) t
    | .alloc _ | .box _ _ => .one .ptr
    | _ => .raw

/-! Entries without a body. 1: bytealg.IndexByteString · 2: bytealg.MakeNoZero · 3: abi.NoEscape · 4: maps.clone -/
def findByte (c : Nat) : List UInt8 → Nat → Int
  | [], _ => -1
  | b :: l, i => (match Nat.beq b.toNat c with | true => .ofNat i | false => findByte c l (Nat.add i 1))
def externA (E : Env) (code : Nat) (fn : Func) (args : List Value) : Prog :=
  match code, args with
  | 1, [.string b, .int .u8 c] => gd (decide (0 ≤ c) && decide (c < 256)) (.ret (vInt (findByte c.toNat b.data.toList 0)))
  | 2, [.int .i64 (.ofNat n)] => (match fn.resultTypes.toList with
    | t :: _ => opt (elemOfSlice E t) fun e => gd (Nat.ble n 1048576 && isOne E e)
      (.newH ⟨n, e, false, false, true, 0, false, false, []⟩ [] fun k => .ret (.slice (some ⟨k, 0, none⟩) n (capOf n false)))
    | _ => .fail)
  | 3, [x] => .ret x
  | 4, [.iface t (.map (some r))] => ck (Nat.blt t LF) <| .obj r fun o => opt (entsOf o) fun ec => .newObj (.mp ec.1 ec.2) fun k => .ret (.iface t (.map (some k)))
  | _, _ => .fail

abbrev Rec := (fn : Nat) → Tm → List Item → List Deferred → Option Nat → Prog

def callF (E : Env) (ih : Rec) (f : Nat) (args : List Value) : Prog :=
  opt (E.fn.get f) fun fn => (match fn.body with
    | some c => match E.orc f with
      | some p => p args
      | none => ck (Nat.ble args.length fn.ntmps) (frzAs E (E.raw f) 0 fn.params.toList args fun args => ck (Nat.ble args.length fn.ntmps) (ih f (frameTm fn.ntmps args) [.code c] [] none))
    | none => opt (E.ext.get f) fun code => externA E code fn args)
def setPs : List Nat → List Value → Tm → Option Tm
  | [], [], tm => some tm
  | p :: ps, v :: vs, tm => setPs ps vs (tm.set p v)
  | _, _, _ => none
def lpOf : Slot → Option Lp
  | .lp l => some l
  | _ => none
def callV (E : Env) (ih : Rec) (fn : Fn) (captured args : List Value) : Prog :=
  match fn with
  | .func f => callF E ih f (args ++ captured)
  | .yield l => .obj l fun o => opt (lpOf o) fun lp => opt (setPs lp.params args ⟨lp.nt, lp.lv, lp.tm⟩) fun tm =>
      ih lp.fn tm [.code lp.assign, .beginRound, .code lp.body] [] (some l)
  | _ => .fail

/-- An operation: its value. -/
def opA (E : Env) (ih : Rec) (tm : Tm) (o : Oper) : Prog :=
  match o.op with
  | .call c => (match c.callee with
    | .builtin b => builtinA E b c.argTypes.toList (c.args.toList.map (evO tm))
    | .value f => (match evO tm f with
      | .func fn first captured => callV E ih fn captured.toList (first.toList ++ c.args.toList.map (evO tm))
      | _ => .fail)
    | _ => .fail)
  | op => plainOp E (evO tm) op
def deferA (tm : Tm) (rd : Option Nat) (c : Call) : Option Deferred :=
  match rd, c.callee with
  | none, .value f => (match evO tm f with
    | .func fn first captured => some { target := .fn fn captured, args := first ++ c.args.map (evO tm) }
    | _ => none)
  | _, _ => none
def deferOf : Op → Option Call
  | .defer c => some c
  | _ => none
/-! The same operations, with what comes behind them: no node where all is known. -/
def natK (v : Value) (k : Nat → Prog) : Prog :=
  match v with
  | .int _ n => gc (decide (0 ≤ n)) (k n.toNat)
  | _ => .fail
def natOrK (d : Nat) (o : Option Value) (k : Nat → Prog) : Prog :=
  match o with
  | some v => natK v k
  | none => k d
def isBoolV : Value → Bool
  | .bool _ => true
  | _ => false
def loadK (E : Env) (t : TypeId) (cs : List Value) (k : Value → Prog) : Prog :=
  match E.und t with
  | some d => (match isAggD d with
    | true => opt (E.size t) fun n => gc (Nat.ble n cs.length) (k (.agg ⟨cs.take n⟩))
    | false => gc (Nat.blt 0 cs.length) (k (cs.headD U)))
  | none => .fail
def arithK (op : BinOp) (d : IntKind) (x y : Int) (k : Value → Prog) : Prog :=
  match op with
  | .quo => gc (decide (y ≠ 0)) (k (.int d (d.wrap (x.tdiv y))))
  | .rem => gc (decide (y ≠ 0)) (k (.int d (x.tmod y)))
  | op => opt (arith op d x y) k
def shiftK (op : BinOp) (d : IntKind) (x y : Int) (k : Value → Prog) : Prog :=
  match op with
  | .shl => gc (decide (0 ≤ y)) (k (.int d (d.wrap (x * 2 ^ (min y.toNat d.bits)))))
  | .shr => gc (decide (0 ≤ y)) (k (.int d (x.fdiv (2 ^ (min y.toNat d.bits)))))
  | _ => .fail
def strOpK (op : BinOp) (x y : ByteArray) (k : Value → Prog) : Prog :=
  match op with
  | .add => gc (Nat.ble (Nat.add x.data.toList.length y.data.toList.length) 9223372036854775807) (k (.string (mkStr (x.data.toList ++ y.data.toList))))
  | op => opt (strOp op x y) k
def binK (E : Env) (op : BinOp) (t : TypeId) (xo yo : Operand) (x y : Value) (k : Value → Prog) : Prog :=
  match op, x, y with
  | .shl, .int d a, .int _ b => shiftK .shl d a b k
  | .shr, .int d a, .int _ b => shiftK .shr d a b k
  | op, .int d a, .int d' b => (match decide (d = d') with | true => arithK op d a b k | false => .fail)
  | op, .string a, .string b => strOpK op a b k
  | op, x, y => opt (binA E op t xo yo x y) k
def fieldAddrK (E : Env) (t : TypeId) (x : Value) (f : Nat) (k : Value → Prog) : Prog :=
  match isEp x with
  | true => (match E.und t with
    | some (.struct fs) => opt (fs[f]?) fun fd => (match E.size fd.type with
      | some (_ + 1) => gc (Nat.blt fd.offset (elems x).length) (k (epV ((elems x).drop fd.offset)))
      | _ => .fail)
    | _ => .fail)
  | false => callP k (fieldAddrA E t x f)
def indexAddrK (E : Env) (t : TypeId) (x i : Value) (k : Value → Prog) : Prog :=
  match isL x with
  | true => natK i fun i => (match E.und t with
    | some (.slice e) => opt (E.size e) fun sz => gc (Nat.blt i (elems x).length && Nat.blt 0 sz && hdOk sz (elems x)) (k (epV (cellsL (at_ (elems x) i))))
    | _ => .fail)
  | false => natK i fun i => (match E.und t, x with
      | some (.slice e), .slice (some a) len _ => opt (E.size e) fun sz => gc (Nat.blt i len && Nat.blt 0 sz) (k (.pointer (some ⟨a.block, Nat.add a.off (Nat.mul i sz), none⟩)))
      | some (.array len e), .pointer (some a) => opt (E.size e) fun sz => gc (Nat.blt i len && Nat.blt 0 sz) (k (.pointer (some ⟨a.block, Nat.add a.off (Nat.mul i sz), none⟩)))
      | _, _ => .fail)
def indexK (E : Env) (t : TypeId) (x i : Value) (k : Value → Prog) : Prog :=
  natK i fun i => (match E.und t, x with
    | some .string, .string b => gc (Nat.blt i b.data.toList.length) (k (.int .u8 (byteAt b i)))
    | some (.array len e), .agg cs => opt (E.size e) fun sz => gc (Nat.blt i len) (opt (part E e cs.toList (Nat.mul i sz)) k)
    | _, _ => .fail)
def sliceK (E : Env) (t : TypeId) (x : Value) (lo hi mx : Option Value) (k : Value → Prog) : Prog :=
  match isL x with
  | true => natOrK 0 lo fun l => (match E.und t with
    | some (.slice e) => opt (E.size e) fun sz => natOrK (elems x).length hi fun h => (match mx with
      | none => gc (hdOk sz (elems x) && Nat.ble l h && Nat.ble h (elems x).length) (k (lstV (((elems x).drop l).take (Nat.sub h l))))
      | some m => natK m fun m => gc hi.isSome (gc (hdOk sz (elems x) && Nat.beq m h && Nat.ble l h && Nat.ble h (elems x).length) (k (xlstV (((elems x).drop l).take (Nat.sub h l))))))
    | _ => .fail)
  | false =>
  match x with
  | .string str => natOrK 0 lo fun l => (match E.und t, mx with
    | some .string, none => natOrK str.data.toList.length hi fun h =>
      gc (Nat.ble l h && Nat.ble h str.data.toList.length) (k (.string (mkStr ((str.data.toList.drop l).take (Nat.sub h l)))))
    | _, _ => .fail)
  | x => callP k (sliceA E t x lo hi mx)
def plainK (E : Env) (ρ : Operand → Value) (op : Op) (k : Value → Prog) : Prog :=
  match op with
  | .move x => k (ρ x)
  | .assign x => k (ρ x)
  | .pick c a b => (match ρ c with
    | .bool t => (match isBoolV (ρ a) && isBoolV (ρ b) with
      | true => k (.bool (cond t (boolOf (ρ a)) (boolOf (ρ b))))
      | false => cnd (k (ρ a)) (k (ρ b)) t)
    | _ => .fail)
  | .load t a => (match isEp (ρ a) with
    | true => loadK E t (elems (ρ a)) k
    | false => callP k (plainOp E ρ (.load t a)))
  | .binOp op t x y _ => binK E op t x y (ρ x) (ρ y) k
  | .slice t x lo hi mx => sliceK E t (ρ x) (lo.map ρ) (hi.map ρ) (mx.map ρ) k
  | .fieldAddr t x f => fieldAddrK E t (ρ x) f k
  | .indexAddr t x i => indexAddrK E t (ρ x) (ρ i) k
  | .index t x i => indexK E t (ρ x) (ρ i) k
  | op => callP k (plainOp E ρ op)
/-- An operation, and what comes behind it. -/
def opK (E : Env) (ih : Rec) (tm : Tm) (o : Oper) (k : Value → Prog) : Prog :=
  match o.op with
  | .call c => (match c.callee with
    | .builtin b => callP k (builtinA E b c.argTypes.toList (c.args.toList.map (evO tm)))
    | .value f => (match evO tm f with
      | .func fn first captured => .call (callV E ih fn captured.toList (first.toList ++ c.args.toList.map (evO tm))) k
      | _ => .fail)
    | _ => .fail)
  | op => plainK E (evO tm) op k
def opsL (E : Env) (ih : Rec) (fn : Nat) (rd : Option Nat) (all : List Oper) (k : Tm → List Deferred → Prog) : Tm → List Deferred → List Oper → Prog
  | tm, df, [] => k tm df
  | tm, df, o :: rest =>
    ck (chk all tm o) (guardC all tm o (fun tm => match deferOf o.op with
      | some c => opt (deferA tm rd c) fun d => opsL E ih fn rd all k (putT tm o.dst U) (d :: df) rest
      | none => opK E ih tm o (fun v => nmP (nmFor E fn (evO tm) o) v fun v => opsL E ih fn rd all k (putT tm o.dst v) df rest))
      (fun tm => opsL E ih fn rd all k (putT tm o.dst U) df rest))
def opsA (E : Env) (ih : Rec) (fn : Nat) (rd : Option Nat) (all l : List Oper) (tm : Tm) (df : List Deferred) (k : Tm → List Deferred → Prog) : Prog := opsL E ih fn rd all k tm df l

/-! Regions whose order is open. -/
def overlap (k n k' n' : Nat) : Bool := Nat.blt k (Nat.add k' n') && Nat.blt k' (Nat.add k n)
def hits (a : Acc) : List Acc → Bool
  | [] => false
  | b :: l => overlap a.k a.n b.k b.n || hits a l
def anyHits : List Acc → List Acc → Bool
  | [], _ => false
  | a :: l, bs => hits a bs || anyHits l bs
def writesOf : List Acc → List Acc
  | [] => []
  | a :: l => (match a.w with | true => a :: writesOf l | false => writesOf l)
/-- Two runs of operations that touch nothing that the other one writes. -/
def apartLogs (wa a wb b : List Acc) : Bool :=
  (match wa with | [] => true | _ => !anyHits wa b) && (match wb with | [] => true | _ => !anyHits wb a)
def bindsAny (e : Edge) : Bool := Region.binds .any e
/-- Which operations are ahead of an operation by the edges (a set as bits). -/
def maskOf (before : List Nat) (o : Oper) : Nat :=
  o.after.toList.foldl (fun m e => match bindsAny e with
    | true => Nat.lor (Nat.lor m (Nat.shiftLeft 1 e.on)) ((before[e.on]?).getD 0)
    | false => m) 0
/-- What has been carried out and looked at memory: its place, what it wrote, what it touched; the last first. -/
structure Done where
  i : Nat
  ws : List Acc
  all : List Acc
/-- Against the operations ahead: no temporary of theirs, unless they keep their turn. -/
def freeT (ops : Array Oper) (o : Oper) (mask i : Nat) : Nat → List Oper → Bool
  | _, [] => true
  | j, oj :: l => (match Nat.blt j i with
    | true => (Nat.testBit mask j || oj.apart ops o) && freeT ops o mask i (Nat.add j 1) l
    | false => true)
/-- Against what has looked at memory: no place of theirs, unless they keep their turn. -/
def freeL (mask : Nat) (ws all : List Acc) : List Done → Bool
  | [] => true
  | d :: ds => (Nat.testBit mask d.i || apartLogs d.ws d.all ws all) && freeL mask ws all ds
/-- Is an operation a value without a look at memory? -/
def isPure : Prog → Bool
  | .ret _ => true
  | .fail => true
  | .ite _ p q => isPure p && isPure q
  | _ => false
/-- Of which operations it is asked whether they are values without a look at memory. -/
def hintP (E : Env) (op : Op) : Bool :=
  match op with
  | .call c => (match c.callee with
    | .builtin .len => (match c.argTypes.toList with
      | t :: _ => (match E.und t with
        | some .string => true
        | _ => false)
      | _ => false)
    | _ => false)
  | .buildSlice _ _ _ | .alloc _ | .box _ _ | .store _ _ _ | .makeMap _ _ | .makeSlice _ _ _ => false
  | .build t _ => (match E.und t with
    | some (.struct fs) => fs.toList.all fun f => (match E.und f.type with
      | some (.interface _) => false
      | _ => true)
    | _ => true)
  | _ => true
/-- The same, of an operation in its place: a row is no such value. -/
def hintQ (E : Env) (fn : Nat) (o : Oper) : Bool :=
  match hintP E o.op with
  | true => (match shpOf E fn o.dst with
    | some (.one .row) => false
    | some .raw => false
    | _ => true)
  | false => false
def allBelow (c : Nat) : List Acc → Bool
  | [] => true
  | a :: l => Nat.ble (Nat.add a.k a.n) c && allBelow c l
def edgesOk (i : Nat) (o : Oper) : Bool := o.after.toList.all fun e => !bindsAny e || Nat.blt e.on i
def gdL (mask : Nat) (ws all : List Acc) (done : List Done) (k : Prog) : Prog :=
  match done with
  | [] => k
  | d => gd (freeL mask ws all d) k
def opsDL (E : Env) (ih : Rec) (fn : Nat) (ops : Array Oper) (all : List Oper) (k : Tm → Prog) (masks : List Nat) (done : List Done) (tm : Tm) (i : Nat) : List Oper → Prog
  | [] => k tm
  | o :: rest =>
    ck (edgesOk i o && freeT ops o (maskOf masks o) i 0 all && chk all tm o) (guardC all tm o (fun tm => match deferOf o.op with
        | some _ => .fail
        | none => match hintQ E fn o && isPure (opA E ih tm o) with
          | true => opK E ih tm o fun v => nmP (nmFor E fn (evO tm) o) v fun v => opsDL E ih fn ops all k (masks ++ [maskOf masks o]) done (putT tm o.dst v) (Nat.add i 1) rest
          | false => .seg (opA E ih tm o) fun v sg _ => match writesOf sg with
          | ws => gdL (maskOf masks o) ws sg done (nmP (nmFor E fn (evO tm) o) v fun v => opsDL E ih fn ops all k (masks ++ [maskOf masks o]) (⟨i, ws, sg⟩ :: done) (putT tm o.dst v) (Nat.add i 1) rest))
        (fun tm => opsDL E ih fn ops all k (masks ++ [maskOf masks o]) done (putT tm o.dst U) (Nat.add i 1) rest))
def opsD (E : Env) (ih : Rec) (fn : Nat) (ops : Array Oper) (all l : List Oper) (i : Nat) (masks : List Nat) (done : List Done) (tm : Tm) (k : Tm → Prog) : Prog := opsDL E ih fn ops all k masks done tm i l

/-! A frame. -/
def resultsA (E : Env) (tm : Tm) : List ResultVar → (List Value → Prog) → Prog
  | [], k => k []
  | .tmp t :: rest, k => ck (liveO tm (.tmp t)) (resultsA E tm rest fun vs => k (tm.get t :: vs))
  | .cell a t :: rest, k => (match tm.get a with
    | .pointer (some ad) => ck (liveO tm (.tmp a)) <| .call (loadT E t ad.block ad.off) fun v => resultsA E tm rest fun vs => k (v :: vs)
    | _ => .fail)
def resultV : List Value → Value
  | [v] => v
  | vs => .tuple ⟨vs⟩
def isGoF (E : Env) (f : Nat) : Bool := match E.fn.get f with | some g => g.body.isSome && (E.orc f).isNone | none => false
def dfOf : Slot → Option (List Deferred)
  | .dfr (some ds) => some ds
  | _ => none
/-- The deferred calls, then the results. -/
def leaveA (E : Env) (ih : Rec) (fn : Nat) (tm : Tm) : (n : Nat) → List Deferred → Prog
  | 0, _ => .fail
  | n + 1, df =>
    match df with
    | [] => opt (E.fn.get fn) fun f => resultsA E tm f.results.toList fun vs => (match lastBit (E.raw fn) with
      | true => .ret (resultV vs)
      | false => frzAs E 0 0 f.resultTypes.toList vs fun vs => .ret (resultV vs))
    | d :: ds => (match d.target with
      | .fn (.func f) captured => gd (isGoF E f) (.call (callF E ih f (d.args.toList ++ captured.toList)) fun _ => leaveA E ih fn tm n ds)
      | .collected r => .obj r fun o => opt (dfOf o) fun ds' => .setObj r (.dfr none) (leaveA E ih fn tm n (ds' ++ ds))
      | _ => .fail)
def afterR : Option Code → LSt
  | none => .ready
  | some _ => .done
def endRoundA (l : Nat) (jump : Option Code) : Prog :=
  .obj l fun o => opt (lpOf o) fun p => .setObj l (.lp { p with st := afterR jump, pending := jump }) (.ret (.bool jump.isNone))
def isReady : LSt → Bool
  | .ready => true
  | _ => false
def isBusy : LSt → Bool
  | .busy => true
  | _ => false
def leaveS (E : Env) (ih : Rec) (fn : Nat) (tm : Tm) (df : List Deferred) (rd : Option Nat) (jump : Option Code) : Prog :=
  match rd with
  | none => (match jump with
    | none | some .ret => leaveA E ih fn tm 64 df
    | _ => .fail)
  | some l => (match df with
    | [] => endRoundA l jump
    | _ => .fail)
def rangeFuncA (E : Env) (io ih : Rec) (fn : Nat) (tm : Tm) (f : Operand) (ps : List Nat) (assign body : Code) (k : List Item) (df : List Deferred) : Prog :=
  match evO tm f with
  | .func g first captured => ck (liveO tm f) <| .newObj (.dfr (some [])) fun r => .newObj (.lp ⟨.ready, none, fn, tm.nt, tm.lv, tm.t, ps, assign, body, r⟩) fun l =>
    .call (callV E io g captured.toList (first.toList ++ [.func (.yield l) #[] #[]])) fun _ => .obj l fun o => opt (lpOf o) fun p =>
      gd (!isBusy p.st) (.setObj l (.lp { p with st := .exhausted })
        (ih fn tm (match p.pending with | none => k | some c => .code c :: k) ({ target := .collected r, args := #[] } :: df) none))
  | _ => .fail
/-- What is to be done next: ahead of some regions all but what is wanted is forgotten. -/
def nxt (E : Env) (io ih : Rec) (fn : Nat) (tm : Tm) (todo : List Item) (df : List Deferred) (rd : Option Nat) : Prog :=
  match E.kp with
  | false => ih fn tm todo df rd
  | true => match todo with
    | .code (.region id _ _) :: _ => (match E.keep fn id with
      | some l => io fn (keepT tm l) todo df rd
      | none => ih fn tm todo df rd)
    | _ => ih fn tm todo df rd
def stepA (E : Env) (io ih : Rec) (fn : Nat) (tm : Tm) (todo : List Item) (df : List Deferred) (rd : Option Nat) : Prog :=
  match todo with
  | [] => leaveS E io fn tm df rd none
  | .code c :: k => (match c with
    | .ret => leaveS E io fn tm df rd (some .ret)
    | .skip => nxt E io ih fn tm k df rd
    | .label _ => nxt E io ih fn tm k df rd
    | .seq a b => nxt E io ih fn tm (.code a :: .code b :: k) df rd
    | .cond c a b => ck (liveO tm c) (match evO tm c with
      | .bool t => cnd (nxt E io ih fn tm (.code a :: k) df rd) (nxt E io ih fn tm (.code b :: k) df rd) t
      | _ => .fail)
    | .block id b => nxt E io ih fn tm (.code b :: .inBlock id :: k) df rd
    | .loop b => nxt E io ih fn tm (.code b :: .inLoop b :: k) df rd
    | .scope b => nxt E io ih fn tm (.code b :: .inScope b :: k) df rd
    | .exit id => (match exitTo id k with
      | some k => nxt E io ih fn tm k df rd
      | none => leaveS E io fn tm df rd (some (.exit id)))
    | .goto l => (match gotoIn l k with
      | some k => nxt E io ih fn tm k df rd
      | none => leaveS E io fn tm df rd (some (.goto l)))
    | .region _ ops false => opsA E io fn rd ops.toList ops.toList tm df fun tm df => nxt E io ih fn tm k df rd
    | .region _ ops true => opsD E io fn ops ops.toList ops.toList 0 [] [] tm fun tm => nxt E io ih fn tm k df rd
    | .rangeFunc f ps assign body => (match rd with
      | none => rangeFuncA E io ih fn tm f ps.toList assign body k df
      | some _ => .fail)
    | .refuse _ => .fail)
  | .inBlock _ :: k => nxt E io ih fn tm k df rd
  | .inScope _ :: k => nxt E io ih fn tm k df rd
  | .inLoop b :: k => nxt E io ih fn tm (.code b :: .inLoop b :: k) df rd
  | .beginRound :: k => opt rd fun l => .obj l fun o => opt (lpOf o) fun p => gd (isReady p.st) (.setObj l (.lp { p with st := .busy }) (nxt E io ih fn tm k df rd))
  | _ => .fail
/-- A frame's steps, up to so many; calls, and what comes ahead of a region with something kept, go by 'io'. -/
def runI (E : Env) (io : Rec) : Nat → Rec
  | 0, _, _, _, _, _ => .fail
  | n + 1, fn, tm, todo, df, rd => stepA E io (runI E io n) fn tm todo df rd
/-- A run of a frame. -/
def runP (E : Env) : Nat → Rec
  | 0, _, _, _, _, _ => .fail
  | m + 1, fn, tm, todo, df, rd => runI E (runP E m) E.bud fn tm todo df rd
def runA (E : Env) (n : Nat) (fn : Nat) (tm : Tm) (todo : List Item) (df : List Deferred) (rd : Option Nat) (s : St) : Option (Value × St) := (runP E n fn tm todo df rd).run s

def Env.of (P : Program) (ext : List (Nat × Nat)) (orc : Nat → Option (List Value → Prog)) (raw : Nat → Nat) (keep : Nat → Nat → Option (List Nat)) (kp nm : Bool) (shp : Nat → Nat → Option Nm) (bud : Nat) : Env :=
  { P, orc, raw, keep, kp, nm, shp, bud, fn := Tr.ofList 0 P.funcs.toList, ty := Tr.ofList 0 P.types.toList, ext := ext.foldr (fun x t => t.set x.1 (some x.2)) .nil }
/-- A package-level variable's cells, laid. -/
def layGlobal (g : Nat) (el : Nat) (cells : List Value) (m : Tr Slot) : Tr Slot :=
  layCells (gbase g) cells (Nat.add (gbase g) 1) (m.set (gbase g) (some (.hdr ⟨cells.length, el, true, true, true, 0, false, false, []⟩)))
def answer (r : Option (Value × St)) : Option Value := match r with | some (v, _) => some v | none => none
def isTrue (r : Option (Value × St)) : Bool := match r with | some (.bool true, _) => true | _ => false
end
end Go.Ev
