/- The evaluator's runs. -/
import Derived.Test.YtcabdlonefichaaGreatDoorEvOps
namespace Go.Ev
open Go

/-- A frame's slots: how many there are, what is in them. -/
structure Tm where
  nt : Nat
  t : Tr Value
def Tm.get (tm : Tm) (i : Nat) : Value := match tm.t.get i with | some v => v | none => U
def Tm.set (tm : Tm) (d : Nat) (v : Value) : Tm :=
  match tm with
  | ⟨nt, t⟩ => match Nat.blt d nt with
    | true => ⟨nt, t.set d (some v)⟩
    | false => ⟨nt, t⟩
def evO (tm : Tm) : Operand → Value
  | .tmp t => tm.get t
  | .const v => v
  | .global g => .pointer (some ⟨gbase g, 0, none⟩)
  | .func f => .func (.func f) #[] #[]
def putT (tm : Tm) (d : Option Nat) (v : Value) : Tm :=
  match d with
  | some d => tm.set d v
  | none => tm
def wantedA (ops : List Oper) (tm : Tm) (o : Oper) : Bool :=
  match o.guard with
  | none => true
  | some (j, want) =>
    match ops[j]? with
    | some oj => (match oj.dst with
      | some d => (match tm.get d with
        | .bool b => b == want
        | _ => false)
      | none => false)
    | none => false
def argsT : List Value → Nat → Tr Value
  | [], _ => .nil
  | v :: vs, k => (argsT vs (Nat.add k 1)).set k (some v)

/-- What a call by value comes to: the target and its arguments. -/
def resolveA (ρ : Operand → Value) (c : Call) : Option (Fn × List Value × List Value) :=
  match c.callee with
  | .value f => (match ρ f with
    | .func fn first captured => some (fn, captured.toList, first.toList ++ c.args.toList.map ρ)
    | _ => none)
  | _ => none

/-! Entries without a body. 1: bytealg.IndexByteString · 2: bytealg.MakeNoZero · 3: abi.NoEscape · 4: maps.clone -/
def findByte (c : Nat) : List UInt8 → Nat → Int
  | [], _ => -1
  | b :: l, i => (match Nat.beq b.toNat c with | true => .ofNat i | false => findByte c l (Nat.add i 1))
def externA (E : Env) (code : Nat) (fn : Func) (args : List Value) : Prog :=
  match code, args with
  | 1, [.string b, .int .u8 (.ofNat c)] => gd (Nat.blt c 256) (.ret (vInt (findByte c b.data.toList 0)))
  | 2, [.int .i64 (.ofNat n)] => (match fn.resultTypes.toList with
    | t :: _ => opt (elemOfSlice E t) fun e => gd (Nat.ble n 1048576 && isOne E e)
      (.newH ⟨n, e, false, false, true, 0, false, false, []⟩ [] fun k => .ret (.slice (some ⟨k, 0, none⟩) n (capOf n false)))
    | _ => .fail)
  | 3, [x] => .ret x
  | 4, [.iface t (.map (some r))] => .obj r fun o => opt (entsOf o) fun ec => .newObj (.mp ec.1 ec.2) fun k => .ret (.iface t (.map (some k)))
  | _, _ => .fail

abbrev Rec := (fn : Nat) → Tm → List Item → List Deferred → Option Nat → Prog

def callF (E : Env) (ih : Rec) (f : Nat) (args : List Value) : Prog :=
  opt (E.fn.get f) fun fn => (match fn.body with
    | some c => gd (Nat.ble args.length fn.ntmps) (ih f ⟨fn.ntmps, argsT args 0⟩ [.code c] [] none)
    | none => opt (E.ext.get f) fun code => externA E code fn args)
def setPs : List Nat → List Value → Tm → Option Tm
  | [], [], tm => some tm
  | p :: ps, v :: vs, tm => setPs ps vs (tm.set p v)
  | _, _, _ => none
def lpOf : Slot → Option Lp
  | .lp l => some l
  | _ => none
def callV (E : Env) (ih : Rec) (fn : Fn) (captured args : List Value) : Prog :=
  match fn with
  | .func f => callF E ih f (args ++ captured)
  | .yield l => .obj l fun o => opt (lpOf o) fun lp => opt (setPs lp.params args ⟨lp.nt, lp.tm⟩) fun tm =>
      ih lp.fn tm [.code lp.assign, .beginRound, .code lp.body] [] (some l)
  | _ => .fail

/-- An operation: its value. -/
def opA (E : Env) (ih : Rec) (tm : Tm) (o : Oper) : Prog :=
  match o.op with
  | .call c => (match c.callee with
    | .builtin b => builtinA E b c.argTypes.toList (c.args.toList.map (evO tm))
    | .value _ => opt (resolveA (evO tm) c) fun r => callV E ih r.1 r.2.1 r.2.2
    | _ => .fail)
  | op => plainOp E (evO tm) op
def deferA (tm : Tm) (rd : Option Nat) (c : Call) : Option Deferred :=
  match rd, c.callee with
  | none, .value f => (match evO tm f with
    | .func fn first captured => some { target := .fn fn captured, args := first ++ c.args.map (evO tm) }
    | _ => none)
  | _, _ => none
def deferOf : Op → Option Call
  | .defer c => some c
  | _ => none
def opsA (E : Env) (ih : Rec) (rd : Option Nat) (all : List Oper) : List Oper → Tm → List Deferred → (Tm → List Deferred → Prog) → Prog
  | [], tm, df, k => k tm df
  | o :: rest, tm, df, k =>
    match wantedA all tm o with
    | false => opsA E ih rd all rest (putT tm o.dst U) df k
    | true => (match deferOf o.op with
      | some c => opt (deferA tm rd c) fun d => opsA E ih rd all rest (putT tm o.dst U) (d :: df) k
      | none => .call (opA E ih tm o) fun v => opsA E ih rd all rest (putT tm o.dst v) df k)

/-! Regions whose order is open. -/
def overlap (k n k' n' : Nat) : Bool := Nat.blt k (Nat.add k' n') && Nat.blt k' (Nat.add k n)
def hits (a : Acc) : List Acc → Bool
  | [] => false
  | b :: l => overlap a.k a.n b.k b.n || hits a l
def anyHits : List Acc → List Acc → Bool
  | [], _ => false
  | a :: l, bs => hits a bs || anyHits l bs
def writesOf : List Acc → List Acc
  | [] => []
  | a :: l => (match a.w with | true => a :: writesOf l | false => writesOf l)
/-- Two runs of operations that touch nothing that the other one writes. -/
def apartLogs (wa a wb b : List Acc) : Bool :=
  (match wa with | [] => true | _ => !anyHits wa b) && (match wb with | [] => true | _ => !anyHits wb a)
def bindsAny (e : Edge) : Bool := Region.binds .any e
/-- Which operations are ahead of an operation by the edges (a set as bits). -/
def maskOf (before : List Nat) (o : Oper) : Nat :=
  o.after.toList.foldl (fun m e => match bindsAny e with
    | true => Nat.lor (Nat.lor m (Nat.shiftLeft 1 e.on)) ((before[e.on]?).getD 0)
    | false => m) 0
/-- What has been carried out: the operation, what it wrote, what it touched; the last first. -/
structure Done where
  o : Oper
  ws : List Acc
  all : List Acc
def freeOf (ops : Array Oper) (o : Oper) (mask : Nat) (ws all : List Acc) : List Done → Nat → Bool
  | [], _ => true
  | d :: ds, i =>
    -- d is operation i - 1
    (Nat.testBit mask (Nat.sub i 1) || (d.o.apart ops o && apartLogs d.ws d.all ws all)) && freeOf ops o mask ws all ds (Nat.sub i 1)
def allBelow (c : Nat) : List Acc → Bool
  | [] => true
  | a :: l => Nat.ble (Nat.add a.k a.n) c && allBelow c l
def edgesOk (i : Nat) (o : Oper) : Bool := o.after.toList.all fun e => !bindsAny e || Nat.blt e.on i
def opsD (E : Env) (ih : Rec) (ops : Array Oper) (all : List Oper) : List Oper → (i : Nat) → List Nat → List Done → Tm → (Tm → Prog) → Prog
  | [], _, _, _, tm, k => k tm
  | o :: rest, i, masks, done, tm, k =>
    gd (edgesOk i o) (match maskOf masks o with
    | mask => match wantedA all tm o with
      | false => gd (freeOf ops o mask [] [] done i) (opsD E ih ops all rest (Nat.add i 1) (masks ++ [mask]) (⟨o, [], []⟩ :: done) (putT tm o.dst U) k)
      | true => (match deferOf o.op with
        | some _ => .fail
        | none => .seg (opA E ih tm o) fun v sg c => match writesOf sg with
          | ws => gd (allBelow c ws && freeOf ops o mask ws sg done i) (opsD E ih ops all rest (Nat.add i 1) (masks ++ [mask]) (⟨o, ws, sg⟩ :: done) (putT tm o.dst v) k)))

/-! A frame. -/
def resultsA (E : Env) (tm : Tm) : List ResultVar → (List Value → Prog) → Prog
  | [], k => k []
  | .tmp t :: rest, k => resultsA E tm rest fun vs => k (tm.get t :: vs)
  | .cell a t :: rest, k => (match tm.get a with
    | .pointer (some ad) => .call (loadT E t ad.block ad.off) fun v => resultsA E tm rest fun vs => k (v :: vs)
    | _ => .fail)
def resultV : List Value → Value
  | [v] => v
  | vs => .tuple ⟨vs⟩
def isGoF (E : Env) (f : Nat) : Bool := match E.fn.get f with | some g => g.body.isSome | none => false
def dfOf : Slot → Option (List Deferred)
  | .dfr (some ds) => some ds
  | _ => none
/-- The deferred calls, then the results. -/
def leaveA (E : Env) (ih : Rec) (fn : Nat) (tm : Tm) : (n : Nat) → List Deferred → Prog
  | 0, _ => .fail
  | n + 1, df =>
    match df with
    | [] => opt (E.fn.get fn) fun f => resultsA E tm f.results.toList fun vs => .ret (resultV vs)
    | d :: ds => (match d.target with
      | .fn (.func f) captured => gd (isGoF E f) (.call (callF E ih f (d.args.toList ++ captured.toList)) fun _ => leaveA E ih fn tm n ds)
      | .collected r => .obj r fun o => opt (dfOf o) fun ds' => .setObj r (.dfr none) (leaveA E ih fn tm n (ds' ++ ds))
      | _ => .fail)
def afterR : Option Code → LSt
  | none => .ready
  | some _ => .done
def endRoundA (l : Nat) (jump : Option Code) : Prog :=
  .obj l fun o => opt (lpOf o) fun p => .setObj l (.lp { p with st := afterR jump, pending := jump }) (.ret (.bool jump.isNone))
def isReady : LSt → Bool
  | .ready => true
  | _ => false
def isBusy : LSt → Bool
  | .busy => true
  | _ => false
def leaveS (E : Env) (ih : Rec) (fn : Nat) (tm : Tm) (df : List Deferred) (rd : Option Nat) (jump : Option Code) : Prog :=
  match rd with
  | none => (match jump with
    | none | some .ret => leaveA E ih fn tm 64 df
    | _ => .fail)
  | some l => (match df with
    | [] => endRoundA l jump
    | _ => .fail)
def rangeFuncA (E : Env) (ih : Rec) (fn : Nat) (tm : Tm) (f : Operand) (ps : List Nat) (assign body : Code) (k : List Item) (df : List Deferred) : Prog :=
  match evO tm f with
  | .func g first captured => .newObj (.dfr (some [])) fun r => .newObj (.lp ⟨.ready, none, fn, tm.nt, tm.t, ps, assign, body, r⟩) fun l =>
    .call (callV E ih g captured.toList (first.toList ++ [.func (.yield l) #[] #[]])) fun _ => .obj l fun o => opt (lpOf o) fun p =>
      gd (!isBusy p.st) (.setObj l (.lp { p with st := .exhausted })
        (ih fn tm (match p.pending with | none => k | some c => .code c :: k) ({ target := .collected r, args := #[] } :: df) none))
  | _ => .fail
def stepA (E : Env) (ih : Rec) (fn : Nat) (tm : Tm) (todo : List Item) (df : List Deferred) (rd : Option Nat) : Prog :=
  match todo with
  | [] => leaveS E ih fn tm df rd none
  | .code c :: k => (match c with
    | .ret => leaveS E ih fn tm df rd (some .ret)
    | .skip => ih fn tm k df rd
    | .label _ => ih fn tm k df rd
    | .seq a b => ih fn tm (.code a :: .code b :: k) df rd
    | .cond c a b => (match evO tm c with
      | .bool true => ih fn tm (.code a :: k) df rd
      | .bool false => ih fn tm (.code b :: k) df rd
      | _ => .fail)
    | .block id b => ih fn tm (.code b :: .inBlock id :: k) df rd
    | .loop b => ih fn tm (.code b :: .inLoop b :: k) df rd
    | .scope b => ih fn tm (.code b :: .inScope b :: k) df rd
    | .exit id => (match exitTo id k with
      | some k => ih fn tm k df rd
      | none => leaveS E ih fn tm df rd (some (.exit id)))
    | .goto l => (match gotoIn l k with
      | some k => ih fn tm k df rd
      | none => leaveS E ih fn tm df rd (some (.goto l)))
    | .region _ ops false => opsA E ih rd ops.toList ops.toList tm df fun tm df => ih fn tm k df rd
    | .region _ ops true => opsD E ih ops ops.toList ops.toList 0 [] [] tm fun tm => ih fn tm k df rd
    | .rangeFunc f ps assign body => (match rd with
      | none => rangeFuncA E ih fn tm f ps.toList assign body k df
      | some _ => .fail)
    | .refuse _ => .fail)
  | .inBlock _ :: k => ih fn tm k df rd
  | .inScope _ :: k => ih fn tm k df rd
  | .inLoop b :: k => ih fn tm (.code b :: .inLoop b :: k) df rd
  | .beginRound :: k => opt rd fun l => .obj l fun o => opt (lpOf o) fun p => gd (isReady p.st) (.setObj l (.lp { p with st := .busy }) (ih fn tm k df rd))
  | _ => .fail
/-- A run of a frame, up to so many steps. -/
def runP (E : Env) : Nat → Rec
  | 0, _, _, _, _, _ => .fail
  | n + 1, fn, tm, todo, df, rd => stepA E (runP E n) fn tm todo df rd
def runA (E : Env) (n : Nat) (fn : Nat) (tm : Tm) (todo : List Item) (df : List Deferred) (rd : Option Nat) (s : St) : Option (Value × St) := (runP E n fn tm todo df rd).run s

def Env.of (P : Program) (ext : List (Nat × Nat)) : Env :=
  { P, fn := Tr.ofList 0 P.funcs.toList, ty := Tr.ofList 0 P.types.toList, ext := ext.foldr (fun x t => t.set x.1 (some x.2)) .nil }
/-- A package-level variable's cells, laid. -/
def layGlobal (g : Nat) (el : Nat) (cells : List Value) (m : Tr Slot) : Tr Slot :=
  layCells (gbase g) cells (Nat.add (gbase g) 1) (m.set (gbase g) (some (.hdr ⟨cells.length, el, true, true, true, 0, false, false, []⟩)))
def answer (r : Option (Value × St)) : Option Value := match r with | some (v, _) => some v | none => none
def isTrue (r : Option (Value × St)) : Bool := match r with | some (.bool true, s) => Nat.blt s.ctr 1000000000 | _ => false
end Go.Ev
