/- A deterministic evaluator over Go's code in the model, without capacities and without orders: its data. -/
import GoSem.Step
import Derived.Orders
namespace Go.Ev
open Go
noncomputable section

/-! Values that are no addresses: lists that nobody changes any more · such lists that have no room behind them · a place within a list. -/
def LF : Nat := 1000000000
def LZ : Nat := 1000000001
def LE : Nat := 1000000002
def lstV (es : List Value) : Value := .iface 1000000000 (.agg ⟨es⟩)
def xlstV (es : List Value) : Value := .iface 1000000001 (.agg ⟨es⟩)
def epV (cs : List Value) : Value := .iface 1000000002 (.agg ⟨cs⟩)
def isLst : Value → Bool
  | .iface t (.agg _) => Nat.beq t LF
  | _ => false
def isXl : Value → Bool
  | .iface t (.agg _) => Nat.beq t LZ
  | _ => false
def isEp : Value → Bool
  | .iface t (.agg _) => Nat.beq t LE
  | _ => false
def isL (v : Value) : Bool := isLst v || isXl v
/-- What a list's parts are, or the cells behind a place. -/
def elems : Value → List Value
  | .iface _ (.agg ⟨es⟩) => es
  | _ => []
def intOf : Value → Int
  | .int _ n => n
  | _ => 0
def boolOf : Value → Bool
  | .bool b => b
  | _ => false
def strOf : Value → ByteArray
  | .string s => s
  | _ => ⟨#[]⟩
def cellsL (v : Value) : List Value := v.cells.toList
def flatC : List Value → List Value
  | [] => []
  | e :: es => cellsL e ++ flatC es
/-- The parts of which such cells are: so many cells each. -/
def chunkC (one : Bool) (sz : Nat) : Nat → List Value → List Value
  | 0, _ => []
  | n + 1, cs => (match one with | true => cs.headD (.tuple ⟨[]⟩) | false => .agg ⟨cs.take sz⟩) :: chunkC one sz n (cs.drop sz)
def at_ (l : List Value) (i : Nat) : Value := l.getD i (.tuple ⟨[]⟩)

/-! A map from numbers. -/
inductive Tr (α : Type) : Type where
  | nil : Tr α
  | node (l : Tr α) (v : Option α) (r : Tr α) : Tr α

namespace Tr
variable {α : Type}
def get (t : Tr α) : Nat → Option α :=
  Tr.rec (motive := fun _ => Nat → Option α) (fun _ => none) (fun _ v _ ihl ihr k =>
    Nat.rec (motive := fun _ => Option α) v (fun k' _ => Bool.rec (motive := fun _ => Option α) (ihr (Nat.div k' 2)) (ihl (Nat.div k' 2)) (Nat.beq (Nat.mod k' 2) 0)) k) t
def single (v : Option α) (f : Nat) : Nat → Tr α :=
  Nat.rec (motive := fun _ => Nat → Tr α) (fun _ => .node .nil v .nil) (fun _ ih k =>
    Nat.rec (motive := fun _ => Tr α) (.node .nil v .nil) (fun k' _ => Bool.rec (motive := fun _ => Tr α) (.node .nil none (ih (Nat.div k' 2))) (.node (ih (Nat.div k' 2)) none .nil) (Nat.beq (Nat.mod k' 2) 0)) k) f
def set (t : Tr α) : Nat → Option α → Tr α :=
  Tr.rec (motive := fun _ => Nat → Option α → Tr α) (fun k v => single v k k) (fun l x r ihl ihr k v =>
    Nat.rec (motive := fun _ => Tr α) (.node l v r) (fun k' _ => Bool.rec (motive := fun _ => Tr α) (.node l x (ihr (Nat.div k' 2) v)) (.node (ihl (Nat.div k' 2) v) x r) (Nat.beq (Nat.mod k' 2) 0)) k) t
def ofList : Nat → List α → Tr α
  | _, [] => .nil
  | k, x :: xs => (ofList (k + 1) xs).set k (some x)
end Tr

/-! What is at a place of the evaluator's memory. -/
/-- Of a row: its cells; their type; read only; the block has just these cells; it begins at the block's begin;
cells below 'fz' may be frozen; the place behind the block's end may be; it has been moved; where it was before. -/
structure Hdr where
  n : Nat
  el : TypeId
  ro : Bool
  ex : Bool
  z : Bool
  fz : Nat
  sy : Bool
  mv : Bool
  olds : List Nat

inductive LSt where
  | ready | busy | done | exhausted
  deriving DecidableEq

structure Lp where
  st : LSt
  pending : Option Code
  fn : Nat
  nt : Nat
  lv : Nat
  tm : Tr Value
  params : List Nat
  assign : Code
  body : Code
  defers : Nat

inductive Slot where
  | hdr (h : Hdr)
  | cell (b : Nat) (v : Value)
  | mp (es : List MapEntry) (clock : Nat)
  | sit (s : ByteArray) (pos : Nat)
  | mit (map : Option Nat) (since : Nat) (seen : List Nat) (stepped : Nat)
  | lp (l : Lp)
  | dfr (ds : Option (List Deferred))

/-- An access: written?, the first place, how many. -/
structure Acc where
  w : Bool
  k : Nat
  n : Nat

structure St where
  mem : Tr Slot
  ctr : Nat
  log : List Acc

/-- Where a package-level variable lies. -/
def gbase (g : Nat) : Nat := Nat.add 1 (Nat.mul g 65536)

/-! Memory. -/
def rdCells (m : Tr Slot) (b : Nat) : (n o : Nat) → Option (List Value)
  | 0, _ => some []
  | n + 1, o =>
    match m.get (Nat.add (Nat.add b 1) o) with
    | some (.cell b' v) => (match Nat.beq b' b with
      | true => (match rdCells m b n (Nat.add o 1) with | some l => some (v :: l) | none => none)
      | false => none)
    | _ => none
def layCells (b : Nat) : List Value → (k : Nat) → Tr Slot → Tr Slot
  | [], _, m => m
  | v :: vs, k, m => layCells b vs (Nat.add k 1) (m.set k (some (.cell b v)))
def kill : List Nat → Tr Slot → Tr Slot
  | [], m => m
  | k :: ks, m => kill ks (m.set k none)
def oneC : Value → Bool
  | .agg _ | .tuple _ => false
  | _ => true
def killLog : List Nat → List Acc → List Acc
  | [], l => l
  | k :: ks, l => killLog ks (⟨true, k, 1⟩ :: l)

def St.rd (s : St) (b n o : Nat) : Option (List Value × St) :=
  match s with
  | ⟨m, c, l⟩ => match m.get b with
    | some (.hdr _) => (match rdCells m b n o with
      | some vs => some (vs, ⟨m, c, ⟨false, Nat.add (Nat.add b 1) o, n⟩ :: ⟨false, b, 1⟩ :: l⟩)
      | none => none)
    | _ => none
def St.wr (s : St) (b o : Nat) (vs : List Value) : Option St :=
  match s with
  | ⟨m, c, l⟩ => match m.get b with
    | some (.hdr ⟨n, el, ro, ex, z, fz, sy, mv, olds⟩) =>
      (match ro || mv || !(Nat.ble fz o) || !(vs.all oneC) || !(Nat.ble (Nat.add o vs.length) n) with
      | true => none
      | false => match olds with
        | [] => some ⟨layCells b vs (Nat.add (Nat.add b 1) o) m, c, ⟨true, Nat.add (Nat.add b 1) o, vs.length⟩ :: ⟨false, b, 1⟩ :: l⟩
        | k :: ks => some ⟨layCells b vs (Nat.add (Nat.add b 1) o) ((kill (k :: ks) m).set b (some (.hdr ⟨n, el, ro, ex, z, fz, sy, mv, []⟩))), c,
            ⟨true, Nat.add (Nat.add b 1) o, vs.length⟩ :: ⟨true, b, 1⟩ :: killLog (k :: ks) l⟩)
    | _ => none
/-- A new row, by its header; the first of its cells are known. -/
def St.newH (s : St) (h : Hdr) (vs : List Value) : Nat × St :=
  match s with
  | ⟨m, c, l⟩ => (c, ⟨layCells c vs (Nat.add c 1) (m.set c (some (.hdr h))), Nat.add (Nat.add c h.n) 1, ⟨true, c, Nat.add h.n 1⟩ :: l⟩)
def St.newObj (s : St) (o : Slot) : Nat × St :=
  match s with
  | ⟨m, c, l⟩ => (c, ⟨m.set c (some o), Nat.add c 1, ⟨true, c, 1⟩ :: l⟩)
def St.obj (s : St) (k : Nat) : Option (Slot × St) :=
  match s with
  | ⟨m, c, l⟩ => match m.get k with
    | some (.hdr _) | some (.cell _ _) | none => none
    | some o => some (o, ⟨m, c, ⟨false, k, 1⟩ :: l⟩)
def St.setObj (s : St) (k : Nat) (o : Slot) : Option St :=
  match s with
  | ⟨m, c, l⟩ => match m.get k with
    | some (.hdr _) | some (.cell _ _) | none => none
    | some _ => some ⟨m.set k (some o), c, ⟨true, k, 1⟩ :: l⟩
def St.hd (s : St) (b : Nat) : Option (Hdr × St) :=
  match s with
  | ⟨m, c, l⟩ => match m.get b with
    | some (.hdr h) => some (h, ⟨m, c, ⟨false, b, 1⟩ :: l⟩)
    | _ => none
def St.setHd (s : St) (b : Nat) (h : Hdr) : Option St :=
  match s with
  | ⟨m, c, l⟩ => match m.get b with
    | some (.hdr _) => some ⟨m.set b (some (.hdr h)), c, ⟨true, b, 1⟩ :: l⟩
    | _ => none

/-- A row that nobody changes any more: it has no place any longer. -/
def St.frz (s : St) (b n o : Nat) : Option (List Value × St) :=
  match s with
  | ⟨m, c, l⟩ => match m.get b with
    | some (.hdr ⟨_, _, ro, _, _, _, _, mv, olds⟩) => (match ro || mv with
      | true => none
      | false => match rdCells m b n o with
        | some vs => (match vs.all oneC with
          | true => some (vs, ⟨(kill olds m).set b none, c, ⟨true, b, 1⟩ :: killLog olds (⟨false, Nat.add (Nat.add b 1) o, n⟩ :: l)⟩)
          | false => none)
        | none => none)
    | _ => none

/-- How an abstract capacity is told: twice a lower bound, and one more if it is just that. -/
def capOf (c : Nat) (ex : Bool) : Nat := Nat.add (Nat.mul 2 c) (match ex with | true => 1 | false => 0)
def capLo (c : Nat) : Nat := Nat.div c 2
def capEx (c : Nat) : Bool := Nat.beq (Nat.mod c 2) 1

/-! What the evaluator does, as data: so that what holds of each small step holds of all. -/
inductive Prog where
  | ret (v : Value)
  | fail
  | rd (b n o : Nat) (k : List Value → Prog)
  | wr (b o : Nat) (vs : List Value) (k : Prog)
  | newH (h : Hdr) (vs : List Value) (k : Nat → Prog)
  | newObj (o : Slot) (k : Nat → Prog)
  | obj (i : Nat) (k : Slot → Prog)
  | setObj (i : Nat) (o : Slot) (k : Prog)
  | hd (b : Nat) (k : Hdr → Prog)
  | setHd (b : Nat) (h : Hdr) (k : Prog)
  | frz (b n o : Nat) (k : List Value → Prog)
  /-- One of two. -/
  | ite (b : Bool) (p q : Prog)
  /-- An operation within: its value. -/
  | call (p : Prog) (k : Value → Prog)
  /-- An operation within, and what it touched. -/
  | seg (p : Prog) (k : Value → List Acc → Nat → Prog)
def Prog.run : Prog → St → Option (Value × St)
  | .ret v, s => some (v, s)
  | .fail, _ => none
  | .rd b n o k, s => (match s.rd b n o with | some (vs, s) => (k vs).run s | none => none)
  | .wr b o vs k, s => (match s.wr b o vs with | some s => k.run s | none => none)
  | .newH h vs k, s => (match Nat.ble vs.length h.n with | true => (match s.newH h vs with | (i, s) => (k i).run s) | false => none)
  | .newObj o k, s => (match s.newObj o with | (i, s) => (k i).run s)
  | .obj i k, s => (match s.obj i with | some (o, s) => (k o).run s | none => none)
  | .setObj i o k, s => (match s.setObj i o with | some s => k.run s | none => none)
  | .hd b k, s => (match s.hd b with | some (h, s) => (k h).run s | none => none)
  | .setHd b h k, s => (match s.setHd b h with | some s => k.run s | none => none)
  | .frz b n o k, s => (match s.frz b n o with | some (vs, s) => (k vs).run s | none => none)
  | .ite b p q, s => (match b with | true => p.run s | false => q.run s)
  | .call p k, s => (match p.run s with | some (v, s) => (k v).run s | none => none)
  | .seg p k, s => (match s with
    | ⟨m, c, l⟩ => match p.run ⟨m, c, []⟩ with
      | some (v, ⟨m, c, sg⟩) => (k v sg c).run ⟨m, c, sg ++ l⟩
      | none => none)
/-- A row of which all cells are known. -/
def Prog.new (el : TypeId) (ex : Bool) (vs : List Value) (z sy : Bool) (k : Nat → Prog) : Prog :=
  match vs.length with
  | n => .newH ⟨n, el, false, ex, z, 0, sy, false, []⟩ vs k
def opt {α : Type} (x : Option α) (k : α → Prog) : Prog := match x with | some a => k a | none => .fail
def gd (b : Bool) (k : Prog) : Prog := .ite b k .fail
/-- One of two, the condition last: so the kernel looks at it first. -/
def cnd (p q : Prog) (b : Bool) : Prog := match b with | true => p | false => q
/-- The same, no node where it is known. -/
def gc (b : Bool) (k : Prog) : Prog := cnd k .fail b
/-- The same, where it is known. -/
def ck (b : Bool) (k : Prog) : Prog := match b with | true => k | false => .fail
/-- An operation within; what is a value already is no node, a condition ahead of it neither. -/
def callP (k : Value → Prog) : Prog → Prog
  | .ret v => k v
  | .ite b p .fail => .ite b (callP k p) .fail
  | .fail => .fail
  | p => .call p k
/-! What values of a type look like. -/
inductive Kd where
  | int (k : IntKind) | bool | str | lst | ptr | row | raw
inductive Nm where
  | one (k : Kd) | agg (ks : List Kd) | tup (l : List Nm) | raw
structure Env where
  P : Program
  fn : Tr Func
  ty : Tr TypeInfo
  ext : Tr Nat
  /-- Functions that are told by what they come to. -/
  orc : Nat → Option (List Value → Prog)
  /-- What of a function's parameters (its results: bit 60) is handed on as it is. -/
  raw : Nat → Nat
  /-- What is kept ahead of a region; the rest is forgotten. Is anything forgotten at all? -/
  keep : Nat → Nat → Option (List Nat)
  kp : Bool
  /-- Are values told by their types? -/
  nm : Bool
  /-- In which form what a slot of a function is given is told, if not as its type says. -/
  shp : Nat → Nat → Option Nm
  /-- How many steps of a frame may lie between two regions with something kept. -/
  bud : Nat

def Env.und (E : Env) (t : TypeId) : Option TypeDesc :=
  match E.ty.get t with
  | some { desc := .named _ u, .. } => (match E.ty.get u with | some i => some i.desc | none => none)
  | some i => some i.desc
  | none => none
def Env.undId (E : Env) (t : TypeId) : TypeId :=
  match E.ty.get t with
  | some { desc := .named _ u, .. } => u
  | _ => t
def Env.size (E : Env) (t : TypeId) : Option Nat := match E.ty.get t with | some i => some i.size | none => none
def Env.zero (E : Env) (t : TypeId) : Option Value := match E.ty.get t with | some i => i.zero | none => none
def Env.bytes (E : Env) (t : TypeId) : Option Nat := match E.ty.get t with | some i => some i.bytes | none => none



def mkStr (l : List UInt8) : ByteArray := ⟨⟨l⟩⟩
def bytesOfS (s : ByteArray) : List UInt8 := s.data.toList
def beqB : List UInt8 → List UInt8 → Bool
  | [], [] => true
  | a :: x, b :: y => (match Nat.beq a.toNat b.toNat with | true => beqB x y | false => false)
  | _, _ => false
def lessB : List UInt8 → List UInt8 → Bool
  | _, [] => false
  | [], _ :: _ => true
  | a :: x, b :: y => (match Nat.blt a.toNat b.toNat with
    | true => true
    | false => match Nat.beq a.toNat b.toNat with | true => lessB x y | false => false)
end
end Go.Ev
