/- Soundness, part 5: what the evaluator looks up; its operations on values. -/
import Derived.Test.YtpljgnjdlciicaaGreatDoorLyKQ6
import Derived.Test.YtpljgnjdlciicaaGreatDoorLyKQ7
import Derived.Laws.Strings
import Derived.Calls
import GoSem.Extern.Table
import Derived.IntWalk
namespace Go.Ev
open Go Go.RowKit

/-- The entries without a body that the evaluator knows. -/
def extSem (code : Nat) (fn : Func) (e : Array Value → Sem Value) : Prop :=
  match code with
  | 1 => e = Extern.BytealgIndexByte.indexByte
  | 2 => ∃ ps, e = Extern.BytealgMakeNoZero.makeNoZero ps fn.resultTypes
  | 3 => e = Extern.AbiNoEscape.same
  | 4 => e = Extern.MapsClone.clone
  | _ => False
/-- The relation with all that stays of the world in which the run began. -/
structure WR (P : Program) (ρ : Map) (B0 : Nat) (w0 : World) (m : Tr Slot) (w : World) : Prop where
  mr : MR P ρ B0 m w
  bel : Below B0 w0 w
  hB : B0 ≤ w0.heap.size
def GlOK (P : Program) (ρ : Map) : Prop := ∀ g, g < P.globals.size → ∃ x, ρ (gbase g) = some x ∧ x.B = g ∧ x.sh = 0
/-- What is told of a function holds of each of its calls. -/
def OrcOK (P : Program) (f : Nat) (p : List Value → Prog) : Prop :=
  ∀ (B0 : Nat) (w0 w : World) (ρ : Map) (s s' : St) (v : Value) (args args' : List Value), (p args).run s = some (v, s') → WR P ρ B0 w0 s.mem w → Fr ρ s.mem s.ctr s'.ctr → GlOK P ρ → VRs ρ args args' →
    Calls P f ⟨args'⟩ w fun e w' => ∃ ρ' v', e = .returned v' ∧ Gr ρ ρ' s.ctr s'.ctr ∧ VR ρ' v v' ∧ WR P ρ' B0 w0 s'.mem w'
/-- What holds of the tables that the evaluator looks into, and of the program's code. -/
structure EnvOK (P : Program) (E : Env) : Prop where
  prog : E.P = P
  fn : ∀ f fn, E.fn.get f = some fn → P.funcs[f]? = some fn
  ty : ∀ t i, E.ty.get t = some i → P.info? t = some i
  zero : ∀ t i z, E.ty.get t = some i → i.zero = some z → lit z = true ∧ (cellsL z).length = i.size
  code : ∀ f fn c, E.fn.get f = some fn → fn.body = some c → okCode P.globals.size c = true
  names : ∀ f fn, E.fn.get f = some fn → (fn.name == "runtime.NumGoroutine") = false
  orc : ∀ f p, E.orc f = some p → OrcOK P f p
  ext : ∀ f fn c, E.fn.get f = some fn → E.ext.get f = some c → Extern.findNext fn = none ∧ ∃ e, Extern.find fn = some e ∧ extSem c fn e

section
variable {P : Program} {E : Env} (ok : EnvOK P E) {ρ : Map} {B0 : Nat}
include ok

theorem und_ok {t : TypeId} {d : TypeDesc} (h : E.und t = some d) : P.underlying t = some d := by
  unfold Env.und at h
  unfold Program.underlying
  cases hg : E.ty.get t with
  | none => rw [hg] at h; cases h
  | some i =>
    rw [hg] at h
    rw [ok.ty _ _ hg]
    obtain ⟨desc, str, size, bytes, hp, al, fa, z, cm, ms⟩ := i
    cases desc with
    | named n u =>
      simp only at h ⊢
      cases hu : E.ty.get u with
      | none => rw [hu] at h; cases h
      | some j => rw [hu] at h; rw [ok.ty _ _ hu]; exact h
    | _ => exact h
theorem run_und {t : TypeId} {d : TypeDesc} (h : E.und t = some d) (w : World) : (underlying t).run P w = .ok d w := by
  simp [underlying, und_ok ok h]
theorem info_ok {t : TypeId} {i : TypeInfo} (h : E.ty.get t = some i) (w : World) : (typeInfo t).run P w = .ok i w := by
  simp [typeInfo, ok.ty _ _ h]
omit ok in
theorem size_ok {t : TypeId} {n : Nat} (h : E.size t = some n) : ∃ i, E.ty.get t = some i ∧ i.size = n := by
  unfold Env.size at h
  split at h
  · rename_i i hg; exact ⟨i, hg, by simpa using h⟩
  · cases h
theorem run_size {t : TypeId} {n : Nat} (h : E.size t = some n) (w : World) : (sizeOf t).run P w = .ok n w := by
  obtain ⟨i, hg, rfl⟩ := size_ok h
  simp [sizeOf, info_ok ok hg]
omit ok in
theorem zero_get {t : TypeId} {z : Value} (h : E.zero t = some z) : ∃ i, E.ty.get t = some i ∧ i.zero = some z := by
  unfold Env.zero at h
  split at h
  · rename_i i hg; exact ⟨i, hg, h⟩
  · cases h
theorem run_zero {t : TypeId} {z : Value} (h : E.zero t = some z) (w : World) : (zeroValue t).run P w = .ok z w := by
  obtain ⟨i, hg, hz⟩ := zero_get h
  simp [zeroValue, info_ok ok hg, hz]
omit ok in
theorem run_bytes {t : TypeId} {n : Nat} (h : E.bytes t = some n) : ∃ i, E.ty.get t = some i ∧ i.bytes = n := by
  unfold Env.bytes at h
  split at h
  · rename_i i hg; exact ⟨i, hg, by simpa using h⟩
  · cases h
end

/-! ### Values without addresses -/
theorem lit1_VR {v : Value} (h : lit1 v = true) (ρ : Map) : VR ρ v v := by
  cases v with
  | bool b => exact .bool b
  | int k n => exact .int k n
  | float k b => exact .float k b
  | complex k a b => exact .complex k a b
  | string s => exact .string s
  | pointer a => cases a with
    | none => exact .ptrN
    | some a => simp [lit1] at h
  | slice a n c => cases a with
    | none =>
      simp only [lit1, Bool.and_eq_true] at h
      obtain rfl := Nat.eq_of_beq_eq_true h.1
      obtain rfl := Nat.eq_of_beq_eq_true h.2
      exact .slN
    | some a => simp [lit1] at h
  | map r => cases r with
    | none => exact .mpN
    | some r => simp [lit1] at h
  | nilFunc => exact .nilFunc
  | nilIface => exact .nilIface
  | _ => simp [lit1] at h
theorem lits_VR {l : List Value} (h : l.all lit1 = true) (ρ : Map) : VRs ρ l l := by
  induction l with
  | nil => exact .nil
  | cons v l ih =>
    simp only [List.all_cons, Bool.and_eq_true] at h
    exact .cons (lit1_VR h.1 ρ) (ih h.2)
theorem lit2_VR {v : Value} (h : lit2 v = true) (ρ : Map) : VR ρ v v := by
  cases v with
  | agg cs => exact .agg (lits_VR h ρ)
  | _ => exact lit1_VR (by simpa only [lit2] using h) ρ
theorem lits2_VR {l : List Value} (h : l.all lit2 = true) (ρ : Map) : VRs ρ l l := by
  induction l with
  | nil => exact .nil
  | cons v l ih =>
    simp only [List.all_cons, Bool.and_eq_true] at h
    exact .cons (lit2_VR h.1 ρ) (ih h.2)
theorem lit_VR {v : Value} (h : lit v = true) (ρ : Map) : VR ρ v v := by
  cases v with
  | agg cs => exact .agg (lits_VR h ρ)
  | tuple cs => exact .tuple (lits2_VR h ρ)
  | bool b => exact .bool b
  | int k n => exact .int k n
  | float k b => exact .float k b
  | complex k a b => exact .complex k a b
  | string s => exact .string s
  | pointer a => exact lit1_VR (v := .pointer a) h ρ
  | slice a n c => exact lit1_VR (v := .slice a n c) h ρ
  | map r => exact lit1_VR (v := .map r) h ρ
  | nilFunc => exact .nilFunc
  | nilIface => exact .nilIface
  | chan r => exact lit1_VR (v := .chan r) h ρ
  | func f a b => exact lit1_VR (v := .func f a b) h ρ
  | iface t v => exact lit1_VR (v := .iface t v) h ρ
theorem U_VR (ρ : Map) : VR ρ U U := .tuple .nil

/-! ### What an operation comes to -/
theorem WR.size {P : Program} {ρ : Map} {B0 : Nat} {w0 w : World} {m : Tr Slot} (h : WR P ρ B0 w0 m w) : B0 ≤ w.heap.size := Nat.le_trans h.hB h.bel.size
def SR (P : Program) (ρ : Map) (B0 : Nat) (w0 : World) (s s' : St) (v : Value) (r : Result Value) : Prop :=
  ∃ ρ' v' w', Gr ρ ρ' s.ctr s'.ctr ∧ s.ctr ≤ s'.ctr ∧ r = .ok v' w' ∧ VR ρ' v v' ∧ WR P ρ' B0 w0 s'.mem w'
def UR (P : Program) (ρ : Map) (B0 : Nat) (w0 : World) (s s' : St) (r : Result Unit) : Prop :=
  ∃ w', s.ctr = s'.ctr ∧ r = .ok () w' ∧ WR P ρ B0 w0 s'.mem w'
section
variable {P : Program} {ρ : Map} {B0 : Nat} {w0 w : World}
theorem SR.pure {s s' : St} {v v' : Value} (h : WR P ρ B0 w0 s.mem w) (hm : s'.mem = s.mem) (hc : s'.ctr = s.ctr) (hv : VR ρ v v') : SR P ρ B0 w0 s s' v (.ok v' w) :=
  ⟨ρ, v', w, Gr.refl _ _ _, by omega, rfl, hv, hm ▸ h⟩
end

/-! ### Integers and strings -/
section
variable (P : Program) (w : World)
theorem arith_ok {op : BinOp} {k : IntKind} {x y : Int} {v : Value} (h : arith op k x y = some v) :
    (match op with
      | .add | .sub | .mul => Op.intArith op k x y
      | .quo | .rem => Op.intDiv op k x y
      | .and | .or | .xor | .andNot => Op.intBits op k x y
      | _ => Op.intCmp op x y).run P w = .ok v w ∧ lit v = true := by
  cases op <;> simp only [arith, Option.some.injEq] at h <;> first
    | (subst h; exact ⟨rfl, rfl⟩)
    | (split at h
       · cases h
       · rename_i hy
         simp only [Option.some.injEq] at h
         subst h
         refine ⟨?_, rfl⟩
         simp [Op.intDiv, hy])
    | cases h
theorem shift_ok {op : BinOp} {k yk : IntKind} {x y : Int} {v : Value} (h : shiftA op k x y = some v) : (Op.shift op k x yk y).run P w = .ok v w ∧ lit v = true := by
  unfold shiftA at h
  split at h
  · cases h
  · rename_i hy
    cases op <;> simp only [Option.some.injEq] at h <;> first
      | (subst h; refine ⟨?_, rfl⟩; simp [Op.shift, hy]; done)
      | cases h
theorem beqB_eq : ∀ a b : List UInt8, beqB a b = (a == b) := by
  intro a
  induction a with
  | nil => intro b; cases b <;> rfl
  | cons x a ih =>
    intro b
    cases b with
    | nil => rfl
    | cons y b =>
      rw [beqB, List.cons_beq_cons]
      cases h : Nat.beq x.toNat y.toNat with
      | true =>
        obtain rfl : x = y := UInt8.toNat_inj.1 (Nat.eq_of_beq_eq_true h)
        simp [ih]
      | false =>
        have : (x == y) = false := by
          rw [beq_eq_false_iff_ne]
          rintro rfl
          simp at h
        simp [this]
theorem lessB_eq : ∀ a b : List UInt8, lessB a b = Op.bytesLess a b := by
  intro a
  induction a with
  | nil => intro b; cases b <;> rfl
  | cons x a ih =>
    intro b
    cases b with
    | nil => rfl
    | cons y b =>
      rw [lessB, Op.bytesLess]
      cases h : Nat.blt x.toNat y.toNat with
      | true =>
        have : x < y := UInt8.lt_iff_toNat_lt.2 (Nat.le_of_ble_eq_true h)
        simp [this]
      | false =>
        have hn : ¬ x < y := fun h' => by
          have := Nat.ble_eq_true_of_le (UInt8.lt_iff_toNat_lt.1 h' : x.toNat + 1 ≤ y.toNat)
          rw [show Nat.ble (x.toNat + 1) y.toNat = false from h] at this
          cases this
        cases h2 : Nat.beq x.toNat y.toNat with
        | true =>
          obtain rfl : x = y := UInt8.toNat_inj.1 (Nat.eq_of_beq_eq_true h2)
          simp [ih]
        | false =>
          have : (x == y) = false := by
            rw [beq_eq_false_iff_ne]
            rintro rfl
            simp at h2
          simp [this, hn]
theorem strOp_ok {op : BinOp} {x y : ByteArray} {v : Value} (h : strOp op x y = some v) : (Op.stringOp op x y).run P w = .ok v w ∧ lit v = true := by
  cases op <;> simp only [strOp, beqB_eq, lessB_eq, Option.some.injEq] at h <;> first
    | (subst h; refine ⟨?_, rfl⟩; simp [Op.stringOp, ByteArray.toList_eq]; done)
    | (split at h
       · rename_i hle
         simp only [Option.some.injEq] at h
         subst h
         have hle := Nat.le_of_ble_eq_true hle
         refine ⟨?_, rfl⟩
         have hs : x.size + y.size ≤ 9223372036854775807 := hle
         have hx : ¬ (((x.size + y.size : Nat) : Int) > IntKind.i64.max) := by
           have : IntKind.i64.max = 9223372036854775807 := by decide
           omega
         have e : x ++ y = mkStr (x.data.toList ++ y.data.toList) := by
           apply ByteArray.ext
           simp [mkStr]
         simp only [Op.stringOp, if_neg hx, e]
         rfl
       · cases h)
    | cases h
end

/-! ### Equality -/
theorem ba_beq (a b : ByteArray) : (a == b) = (a.data.toList == b.data.toList) := by
  show (a.data == b.data) = _
  rw [Bool.eq_iff_iff, beq_iff_eq, beq_iff_eq]
  exact Array.toList_inj.symm
section
variable {P : Program} {E : Env} (ok : EnvOK P E) {ρ : Map} {w : World}
include ok
set_option maxHeartbeats 1000000 in
theorem eqV_ok : ∀ (d D : Nat), d ≤ D → ∀ (t : TypeId) (x y x' y' : Value) (b : Bool), eqV E d t x y = some b → VR ρ x x' → VR ρ y y' → (Op.equalIn D t x' y').run P w = .ok b w := by
  intro d
  induction d with
  | zero => intro D _ t x y x' y' b h; simp [eqV] at h
  | succ d ih =>
    intro D hD t x y x' y' b h hx hy
    obtain ⟨D, rfl⟩ : ∃ D', D = D' + 1 := ⟨D - 1, by omega⟩
    unfold eqV at h
    split at h
    · rename_i ht
      cases hx; cases hy
      simp only [Option.some.injEq] at h
      subst h
      simp [Op.equalIn, run_und ok ht]
    · rename_i ht
      cases hx; cases hy
      split at h
      · rename_i hk
        simp only [Option.some.injEq] at h
        subst h
        simp [Op.equalIn, run_und ok ht, hk]
      · cases h
    · rename_i ht
      cases hx; cases hy
      simp only [Option.some.injEq, beqB_eq] at h
      subst h
      simp [Op.equalIn, run_und ok ht, ba_beq]
    · rename_i ht
      cases hx
      cases hy <;> (simp only [Option.some.injEq] at h; subst h; simp [Op.equalIn, run_und ok ht])
    · rename_i hne ht
      cases hy
      cases hx with
      | ptrN => exact (hne rfl).elim
      | ptr e =>
        simp only [Option.some.injEq] at h
        subst h
        simp [Op.equalIn, run_und ok ht]
    · rename_i e a b' ht
      cases hx with
      | ptr e1 => cases hy with
        | ptr e2 =>
          split at h
          · rename_i n hs
            split at h
            · rename_i hab
              simp only [Bool.and_eq_true] at hab
              obtain rfl := Nat.eq_of_beq_eq_true hab.1
              obtain rfl := Nat.eq_of_beq_eq_true hab.2
              rw [e1] at e2
              obtain rfl := Option.some.inj e2
              simp only [Option.some.injEq] at h
              subst h
              simp [Op.equalIn, run_und ok ht, run_size ok hs, sameAddr]
            · cases h
          · cases h
    · rename_i ht
      cases hx; cases hy
      simp only [Option.some.injEq] at h
      subst h
      simp [Op.equalIn, run_und ok ht]
    · rename_i ty _ ht
      cases hx
      split at h
      · rename_i hlt
        simp only [Option.some.injEq] at h
        subst h
        cases hy with
        | iface _ hy => simp [Op.equalIn, run_und ok ht]
        | _ => exact absurd hlt (by decide)
      · cases h
    · rename_i tx _ ht
      cases hy
      split at h
      · rename_i hlt
        simp only [Option.some.injEq] at h
        subst h
        cases hx with
        | iface _ hx => simp [Op.equalIn, run_und ok ht]
        | _ => exact absurd hlt (by decide)
      · cases h
    · rename_i tx vx ty vy ht
      split at h
      · cases h
      rename_i hlts
      simp only [Bool.and_eq_true] at hlts
      obtain ⟨hlx, hly⟩ := hlts
      cases hx with
      | iface _ hx => cases hy with
        | iface _ hy =>
          split at h
          · rename_i hne
            simp only [Option.some.injEq] at h
            subst h
            have : tx ≠ ty := fun e => by subst e; simp at hne
            simp [Op.equalIn, run_und ok ht, this]
          · rename_i heq
            obtain rfl := Nat.eq_of_beq_eq_true heq
            split at h
            · rename_i i hi
              split at h
              · rename_i hc
                simp [Op.equalIn, run_und ok ht, info_ok ok hi, hc]
                exact ih D (by omega) tx vx vy _ _ b h hx hy
              · cases h
            · cases h
        | _ => exact absurd hly (by decide)
      | _ => exact absurd hlx (by decide)
    · rename_i ht
      cases hx
      cases hy <;> (simp only [Option.some.injEq] at h; subst h; simp [Op.equalIn, run_und ok ht])
    · rename_i hne ht
      cases hy
      cases hx with
      | slN => exact (hne rfl).elim
      | sl e =>
        simp only [Option.some.injEq] at h
        subst h
        simp [Op.equalIn, run_und ok ht]
    · rename_i ht
      split at h
      · rename_i hlf
        obtain rfl := Nat.eq_of_beq_eq_true hlf
        simp only [Option.some.injEq] at h
        subst h
        cases hy
        cases hx with
        | iface hlt _ => exact absurd hlt (by decide)
        | lst => simp [Op.equalIn, run_und ok ht]
      · cases h
    · rename_i ht
      cases hx
      cases hy <;> (simp only [Option.some.injEq] at h; subst h; simp [Op.equalIn, run_und ok ht])
    · rename_i hne ht
      cases hy
      cases hx with
      | mpN => exact (hne rfl).elim
      | mp e =>
        simp only [Option.some.injEq] at h
        subst h
        simp [Op.equalIn, run_und ok ht]
    · rename_i ht
      cases hx; cases hy
      simp only [Option.some.injEq] at h
      subst h
      simp [Op.equalIn, run_und ok ht]
    · rename_i ht
      cases hx; cases hy
      simp only [Option.some.injEq] at h
      subst h
      simp [Op.equalIn, run_und ok ht]
    · rename_i ht
      cases hx; cases hy
      simp only [Option.some.injEq] at h
      subst h
      simp [Op.equalIn, run_und ok ht]
    · cases h
end
end Go.Ev
/- Soundness, part 6: operators, loads, stores, new variables. -/
namespace Go.Ev
open Go Go.RowKit
section
variable {P : Program} {E : Env} (ok : EnvOK P E) {ρ : Map} {B0 : Nat} {w0 w : World}

omit ok in
theorem eqGuard_ok (op : BinOp) (t : TypeId) {xo yo : Operand} {x y x' y' : Value} (hg : guardOk xo yo x y = true) (hx : VR ρ x x') (hy : VR ρ y y') :
    (eqGuard op t xo yo x' y').run P w = .ok () w := by
  by_cases hop : (op matches .eql | .neq) = true
  · cases hx with
    | nilIface => cases hy with
      | nilIface =>
        cases xo with
        | const v => simp [eqGuard]
        | _ => cases yo with
          | const v => simp [eqGuard]
          | _ => simp [guardOk, isConstO] at hg
      | _ => simp [eqGuard]
    | agg => cases hy with
      | agg => simp [guardOk] at hg
      | _ => simp [eqGuard]
    | _ => simp [eqGuard]
  · simp [eqGuard]
    exact fun h => absurd h hop
omit ok in
theorem eqGuard_int (op : BinOp) (t : TypeId) (xo yo : Operand) (k k' : IntKind) (a b : Int) : (eqGuard op t xo yo (.int k a) (.int k' b)).run P w = .ok () w :=
  eqGuard_ok (ρ := ⟨fun _ => none, fun _ => none, fun _ => none⟩) op t rfl (.int k a) (.int k' b)
omit ok in
theorem eqGuard_str (op : BinOp) (t : TypeId) (xo yo : Operand) (a b : ByteArray) : (eqGuard op t xo yo (.string a) (.string b)).run P w = .ok () w :=
  eqGuard_ok (ρ := ⟨fun _ => none, fun _ => none, fun _ => none⟩) op t rfl (.string a) (.string b)
include ok
theorem eqlRun {t : TypeId} {x y x' y' : Value} {b : Bool} (h : eqV E 50 t x y = some b) (hx : VR ρ x x') (hy : VR ρ y y') :
    (binOp .eql t x' y').run P w = .ok (.bool b) w ∧ (binOp .neq t x' y').run P w = .ok (.bool (!b)) w := by
  have he := eqV_ok ok (w := w) 50 Op.maxDepth (by decide) t x y x' y' b h hx hy
  have hgen : ((do pure (.bool (← Op.equal t x' y'))) : Sem Value).run P w = .ok (.bool b) w ∧ ((do pure (.bool (!(← Op.equal t x' y')))) : Sem Value).run P w = .ok (.bool (!b)) w := by
    constructor <;> simp [Op.equal, he]
  unfold eqV at h
  split at h
  all_goals first
    | (cases hx; cases hy; split at h
       · rename_i hk
         simp only [Option.some.injEq] at h
         subst h hk
         constructor
         · simp [binOp, Op.intCmp]
         · simp [binOp, Op.intCmp, bne]
       · cases h)
    | (cases hx; cases hy
       simp only [Option.some.injEq, beqB_eq] at h
       subst h
       simp [binOp, Op.stringOp, ByteArray.toList_eq]
       done)
    | (cases h; done)
    | (cases hx <;> cases hy <;> exact hgen)
theorem binA_ok {op : BinOp} {t : TypeId} {xo yo : Operand} {x y x' y' v : Value} (h : binA E op t xo yo x y = some v) (hx : VR ρ x x') (hy : VR ρ y y') :
    ((do eqGuard op t xo yo x' y'; binOp op t x' y') : Sem Value).run P w = .ok v w ∧ lit v = true := by
  unfold binA at h
  split at h
  · rename_i k a yk b
    cases hx; cases hy
    have := shift_ok P w (yk := yk) h
    simp only [Sem.run_bind, eqGuard_int, Result.andThen_ok]
    exact this
  · rename_i k a yk b
    cases hx; cases hy
    have := shift_ok P w (yk := yk) h
    simp only [Sem.run_bind, eqGuard_int, Result.andThen_ok]
    exact this
  · rename_i op' k a k' b n1 n2
    cases hx; cases hy
    split at h
    · rename_i hk
      subst hk
      have h1 := arith_ok P w h
      simp only [Sem.run_bind, eqGuard_int, Result.andThen_ok]
      refine ⟨?_, h1.2⟩
      cases op with
      | shl => exact (n1 rfl).elim
      | shr => exact (n2 rfl).elim
      | _ => simpa [binOp] using h1.1
    · cases h
  · cases hx; cases hy
    have := strOp_ok P w h
    simp only [Sem.run_bind, eqGuard_str, Result.andThen_ok]
    refine ⟨?_, this.2⟩
    cases op <;> exact this.1
  · split at h
    · rename_i hg
      split at h
      · rename_i b hb
        simp only [Option.some.injEq] at h
        subst h
        simp only [Sem.run_bind, eqGuard_ok _ t hg hx hy, Result.andThen_ok]
        exact ⟨(eqlRun ok hb hx hy).1, rfl⟩
      · cases h
    · cases h
  · split at h
    · rename_i hg
      split at h
      · rename_i b hb
        simp only [Option.some.injEq] at h
        subst h
        simp only [Sem.run_bind, eqGuard_ok _ t hg hx hy, Result.andThen_ok]
        exact ⟨(eqlRun ok hb hx hy).2, rfl⟩
      · cases h
    · cases h
  · cases h
omit ok in
theorem shiftP_run {op : BinOp} {k : IntKind} {x y : Int} {s s' : St} {v : Value} (h : (shiftP op k x y).run s = some (v, s')) : shiftA op k x y = some v ∧ s' = s := by
  unfold shiftP at h
  split at h
  · obtain ⟨h1, h2⟩ := gd_run h
    have h1 := of_decide_eq_true h1
    obtain ⟨rfl, rfl⟩ := ret_run h2
    refine ⟨?_, rfl⟩
    unfold shiftA
    rw [if_neg (by omega)]
  · obtain ⟨h1, h2⟩ := gd_run h
    have h1 := of_decide_eq_true h1
    obtain ⟨rfl, rfl⟩ := ret_run h2
    refine ⟨?_, rfl⟩
    unfold shiftA
    rw [if_neg (by omega)]
  · cases h
omit ok in
theorem arithP_run {op : BinOp} {k : IntKind} {x y : Int} {s s' : St} {v : Value} (h : (arithP op k x y).run s = some (v, s')) : arith op k x y = some v ∧ s' = s := by
  unfold arithP at h
  split at h
  · obtain ⟨h1, h2⟩ := gd_run h
    have h1 := of_decide_eq_true h1
    obtain ⟨rfl, rfl⟩ := ret_run h2
    refine ⟨?_, rfl⟩
    simp only [arith, if_neg h1]
  · obtain ⟨h1, h2⟩ := gd_run h
    have h1 := of_decide_eq_true h1
    obtain ⟨rfl, rfl⟩ := ret_run h2
    refine ⟨?_, rfl⟩
    simp only [arith, if_neg h1]
  · obtain ⟨u, h1, h2⟩ := opt_run h
    obtain ⟨rfl, rfl⟩ := ret_run h2
    exact ⟨h1, rfl⟩
omit ok in
theorem strOpP_run {op : BinOp} {x y : ByteArray} {s s' : St} {v : Value} (h : (strOpP op x y).run s = some (v, s')) : strOp op x y = some v ∧ s' = s := by
  unfold strOpP at h
  split at h
  · obtain ⟨h1, h2⟩ := gd_run h
    obtain ⟨rfl, rfl⟩ := ret_run h2
    refine ⟨?_, rfl⟩
    simp only [strOp, h1]
  · obtain ⟨u, h1, h2⟩ := opt_run h
    obtain ⟨rfl, rfl⟩ := ret_run h2
    exact ⟨h1, rfl⟩
omit ok in
theorem binP_run {op : BinOp} {t : TypeId} {xo yo : Operand} {x y : Value} {s s' : St} {v : Value} (h : (binP E op t xo yo x y).run s = some (v, s')) : binA E op t xo yo x y = some v ∧ s' = s := by
  unfold binP at h
  split at h
  · exact shiftP_run h
  · exact shiftP_run h
  · rename_i k a k' b n1 n2
    split at h
    · rename_i hk
      have hk := of_decide_eq_true hk
      obtain ⟨h1, h2⟩ := arithP_run h
      refine ⟨?_, h2⟩
      cases op with
      | shl => exact (n1 rfl).elim
      | shr => exact (n2 rfl).elim
      | _ => simp only [binA, if_pos hk]; exact h1
    · cases h
  · obtain ⟨h1, h2⟩ := strOpP_run h
    refine ⟨?_, h2⟩
    cases op <;> exact h1
  · obtain ⟨u, h1, h2⟩ := opt_run h
    obtain ⟨rfl, rfl⟩ := ret_run h2
    exact ⟨h1, rfl⟩
omit ok in
theorem unA_ok {op : UnOp} {x x' v : Value} (h : unA op x = some v) (hx : VR ρ x x') : (Op.unary op x').run P w = .ok v w ∧ lit v = true := by
  unfold unA at h
  split at h
  · cases hx; exact arith_ok P w h
  · cases hx; exact arith_ok P w h
  · cases hx
    simp only [Option.some.injEq] at h
    subst h
    exact ⟨rfl, rfl⟩
  · cases h

/-! ### Loads, stores, new variables -/
omit ok in
theorem St.wr_ctr {s s' : St} {b o : Nat} {vs : List Value} (h : s.wr b o vs = some s') : s'.ctr = s.ctr := by
  obtain ⟨m, c, l⟩ := s
  simp only [St.wr] at h
  split at h
  · split at h
    · cases h
    · split at h <;> (simp only [Option.some.injEq] at h; subst h; rfl)
  · cases h
omit ok in
theorem VR.ptr_inv {a : Addr} {v : Value} (h : VR ρ (.pointer (some a)) v) : ∃ x, ρ a.block = some x ∧ a.spot = none ∧ v = .pointer (some ⟨x.B, x.sh + a.off, none⟩) := by
  cases h with | ptr e => exact ⟨_, e, rfl, rfl⟩
include ok in
theorem isAgg_run {t : TypeId} {d : TypeDesc} (h : E.und t = some d) (w : World) : (isAgg t).run P w = .ok (isAggD d) w := by
  unfold isAgg
  rw [Sem.run_bind, run_und ok h w]
  cases d <;> rfl
include ok in
theorem loadT_ok {t b o : Nat} {s s' : St} {v : Value} (h : (loadT E t b o).run s = some (v, s')) (r : WR P ρ B0 w0 s.mem w) {x : Blk} (hb : ρ b = some x) :
    SR P ρ B0 w0 s s' v ((loadVar t ⟨x.B, x.sh + o, none⟩).run P w) := by
  unfold loadT at h
  split at h
  · rename_i d hd
    split at h
    · rename_i hag
      obtain ⟨n, hn, h⟩ := opt_run h
      obtain ⟨vs, s1, hr, h⟩ := rd_run h
      obtain ⟨rfl, rfl⟩ := ret_run h
      obtain ⟨hm, hc, _, _, _⟩ := St.rd_spec hr
      obtain ⟨vs', hl, hv, hcell⟩ := r.mr.rd hr hb
      have : (loadVar t ⟨x.B, x.sh + o, none⟩).run P w = .ok (.agg ⟨vs'⟩) w := by
        simp only [loadVar, Sem.run_bind, isAgg_run ok hd, hag, Result.andThen_ok, if_true, run_size ok hn, run_loadRow hl hcell, Sem.run_pure]
      rw [this]
      exact SR.pure r hm hc (.agg hv)
    · rename_i hag
      obtain ⟨vs, s1, hr, h⟩ := rd_run h
      split at h
      · rename_i u
        obtain ⟨rfl, rfl⟩ := ret_run h
        obtain ⟨hm, hc, _, _, _⟩ := St.rd_spec hr
        obtain ⟨vs', hl, hv, hcell⟩ := r.mr.rd hr hb
        cases hv with
        | cons hv htl =>
          have h0 := hcell 0 _ rfl
          simp only [Nat.add_zero] at h0
          simp only [loadVar, Sem.run_bind, isAgg_run ok hd, hag, Result.andThen_ok, Bool.false_eq_true, if_false, run_load, h0]
          exact SR.pure r hm hc hv
      · cases h
  · cases h
omit ok in
theorem VRs.head {l l' : List Value} (h : VRs ρ l l') (hl : 0 < l.length) : ∃ v', l'[0]? = some v' ∧ VR ρ (l.headD U) v' := by
  cases h with
  | nil => simp at hl
  | cons a b => exact ⟨_, rfl, a⟩
omit ok in
/-- What is read of a list's place. -/
theorem run_loadList {B o n : Nat} {vs : List Value} (hl : vs.length = n) (h : ∀ j v, vs[j]? = some v → w.cell? ⟨B, o + j, none⟩ = some v) : (loadCells ⟨B, o, none⟩ n).run P w = .ok ⟨vs⟩ w := run_loadRow hl h
include ok in
theorem loadE_ok {t B o : Nat} {cs cs' : List Value} {s s' : St} {v : Value} (h : (loadE E t cs).run s = some (v, s')) (r : WR P ρ B0 w0 s.mem w) {x : Blk} (hb : ρ.ls B = some x) (hv : VRs ρ cs cs') (hs : Sub x.fc o cs') :
    SR P ρ B0 w0 s s' v ((loadVar t ⟨B, o, none⟩).run P w) := by
  unfold loadE at h
  split at h
  · rename_i d hd
    split at h
    · rename_i hag
      obtain ⟨n, hn, h⟩ := opt_run h
      obtain ⟨hle, h⟩ := gd_run h
      have hle := Nat.le_of_ble_eq_true hle
      obtain ⟨rfl, rfl⟩ := ret_run h
      have hlen := hv.length
      have hl : (cs'.take n).length = n := by simp; omega
      have hload : (loadCells ⟨B, o, none⟩ n).run P w = .ok ⟨cs'.take n⟩ w := run_loadList hl fun j u hj => by
        refine r.mr.frzCell hb (hs j u ?_)
        rw [List.getElem?_take] at hj
        split at hj
        · exact hj
        · cases hj
      have : (loadVar t ⟨B, o, none⟩).run P w = .ok (.agg ⟨cs'.take n⟩) w := by
        simp only [loadVar, Sem.run_bind, isAgg_run ok hd, hag, Result.andThen_ok, if_true, run_size ok hn, hload, Sem.run_pure]
      rw [this]
      exact SR.pure r rfl rfl (.agg (hv.take n))
    · rename_i hag
      obtain ⟨hle, h⟩ := gd_run h
      have hle := Nat.le_of_ble_eq_true hle
      obtain ⟨rfl, rfl⟩ := ret_run h
      obtain ⟨v', e1, e2⟩ := hv.head hle
      have h0 := r.mr.frzCell hb (hs 0 v' e1)
      simp only [Nat.add_zero] at h0
      simp only [loadVar, Sem.run_bind, isAgg_run ok hd, hag, Result.andThen_ok, Bool.false_eq_true, if_false, run_load, h0]
      exact SR.pure r rfl rfl e2
  · cases h
include ok in
theorem storeT_ok {t b o : Nat} {s s' : St} {v v' u : Value} (h : (storeT E t b o v).run s = some (u, s')) (r : WR P ρ B0 w0 s.mem w) (hv : VR ρ v v') {x : Blk} (hb : ρ b = some x) :
    u = U ∧ UR P ρ B0 w0 s s' ((storeVar t ⟨x.B, x.sh + o, none⟩ v').run P w) := by
  unfold storeT at h
  obtain ⟨n, hn, h⟩ := opt_run h
  obtain ⟨hlen, h⟩ := gd_run h
  obtain ⟨s1, h1, h⟩ := wr_run h
  obtain ⟨rfl, rfl⟩ := ret_run h
  refine ⟨rfl, ?_⟩
  have hlen := Nat.eq_of_beq_eq_true hlen
  have hcs := hv.cells
  obtain ⟨w', e1, e2, e3, e4⟩ := r.mr.wr h1 hcs hb
  have hsz : v'.cells.size = n := by
    have := hcs.length
    rw [hlen] at this
    simpa [cellsL] using this
  have : (storeVar t ⟨x.B, x.sh + o, none⟩ v').run P w = .ok () w' := by
    simp only [storeVar, Sem.run_bind, run_size ok hn, Result.andThen_ok, hsz, ne_eq, not_true, if_false]
    exact e1
  rw [this]
  exact ⟨w', e4.symm, rfl, e2, r.bel.trans e3, r.hB⟩
omit ok in
/-- A new row whose cells are all known. -/
theorem newRow_ok {s : St} {el : TypeId} {ex z : Bool} {vs vs' : List Value} (r : WR P ρ B0 w0 s.mem w) (fr : Fr ρ s.mem s.ctr (s.ctr + vs.length + 1))
    (hv : VRs ρ vs vs') {i : TypeInfo} (hi : P.info? el = some i) :
    ∃ ρ', Gr ρ ρ' s.ctr (s.ctr + vs.length + 1) ∧ ρ' s.ctr = some ⟨w.heap.size, 0, vs'.length, i.size, []⟩ ∧ (newRow el ⟨vs'⟩).run P w = .ok ⟨w.heap.size, 0, none⟩ { w with heap := w.heap.push (.cells ⟨vs'⟩ el) } ∧
      WR P ρ' B0 w0 (layCells s.ctr vs (s.ctr + 1) (s.mem.set s.ctr (some (.hdr ⟨vs.length, el, false, ex, z, 0, false, false, []⟩)))) { w with heap := w.heap.push (.cells ⟨vs'⟩ el) } := by
  have hlen := hv.length
  refine ⟨upd ρ s.ctr ⟨w.heap.size, 0, vs'.length, i.size, []⟩, ⟨Ext.upd _ (fr.map s.ctr (Nat.le_refl _) (by omega)), fun k hk => upd_ne (by omega)⟩, upd_same _ _ _, rfl, ?_, ?_, r.hB⟩
  · have := r.mr.new (k := s.ctr) (n := vs.length) (el := el) (ex := ex) (z := z) (sy := false) (c := ⟨vs'⟩) (lo := 0) (hi := 0) (sz := i.size) (w1 := { w with heap := w.heap.push (.cells ⟨vs'⟩ el) })
      fr (Nat.le_refl _) hv rfl r.size (fun j v e => by simpa using e) (by simp [hlen]) (fun _ => by simp [hlen]) ⟨i, hi, rfl⟩ (Nat.le_refl _) (fun i _ h => absurd h (by omega)) (fun _ => Nat.le_refl _)
    exact this
  · exact r.bel.alloc r.size _
end
end Go.Ev
/- Soundness, part 7: rows: slices, makes, appends, copies. -/
namespace Go.Ev
open Go Go.RowKit
section
variable {P : Program} {E : Env} (ok : EnvOK P E) {ρ : Map} {B0 : Nat} {w0 w : World}

theorem natOf_ok {v v' : Value} {n : Nat} (h : natOf v = some n) (hv : VR ρ v v') : ∃ k, v' = .int k (n : Int) := by
  unfold natOf at h
  split at h
  · rename_i k m
    simp only [Option.some.injEq] at h
    subst h
    cases hv
    exact ⟨k, rfl⟩
  · cases h
theorem elemOfSlice_ok {t e : TypeId} (h : elemOfSlice E t = some e) : E.und t = some (.slice e) := by
  unfold elemOfSlice at h
  split at h
  · rename_i e' hd
    simp only [Option.some.injEq] at h
    subst h
    exact hd
  · cases h
include ok in
theorem part_ok {t : TypeId} {cs cs' : List Value} {off : Nat} {v : Value} (h : part E t cs off = some v) (hcs : VRs ρ cs cs') : ∃ v', (Go.part t ⟨cs'⟩ off).run P w = .ok v' w ∧ VR ρ v v' := by
  unfold part at h
  split at h
  · rename_i d hd
    split at h
    · rename_i hag
      split at h
      · rename_i n hn
        simp only [Option.some.injEq] at h
        subst h
        refine ⟨.agg ⟨(cs'.drop off).take n⟩, ?_, .agg ((hcs.drop off).take n)⟩
        simp only [Go.part, Sem.run_bind, isAgg_run ok hd, hag, Result.andThen_ok, if_true, run_size ok hn, Sem.run_pure]
        congr 2
        apply Array.ext'
        simp
      · cases h
    · rename_i hag
      obtain ⟨v', e, r⟩ := hcs.get h
      refine ⟨v', ?_, r⟩
      have : (⟨cs'⟩ : Array Value)[off]? = some v' := by simpa using e
      simp only [Go.part, Sem.run_bind, isAgg_run ok hd, hag, Result.andThen_ok, Bool.false_eq_true, if_false, this, Sem.run_pure]
  · cases h
theorem rep_length (z : List Value) : ∀ n, (rep z n).length = n * z.length
  | 0 => by simp [rep]
  | n + 1 => by rw [rep, List.length_append, rep_length z n, Nat.succ_mul]; omega
theorem rep_get (z : List Value) : ∀ (n i : Nat), i < n * z.length → (rep z n)[i]? = z[i % z.length]? := by
  intro n
  induction n with
  | zero => intro i h; simp at h
  | succ n ih =>
    intro i h
    rw [rep]
    by_cases hi : i < z.length
    · rw [List.getElem?_append_left hi, Nat.mod_eq_of_lt hi]
    · have hz : z.length ≤ i := by omega
      rw [List.getElem?_append_right hz, ih _ (by rw [Nat.succ_mul] at h; omega), Nat.mod_eq_sub_mod hz]
/-- The model's way to say so many zeros. -/
theorem zeros_eq (z : Array Value) (n : Nat) : ((Array.range (n * z.size)).map (z[· % z.size]!)) = ⟨rep z.toList n⟩ := by
  apply Array.ext'
  apply List.ext_getElem?
  intro i
  by_cases hi : i < n * z.size
  · have hz : 0 < z.size := by
      rcases Nat.eq_zero_or_pos z.size with h | h
      · rw [h] at hi; simp at hi
      · exact h
    have hm := Nat.mod_lt i hz
    simp only [Array.toList_map, Array.toList_range, List.getElem?_map]
    rw [List.getElem?_range hi, rep_get z.toList n i (by simpa using hi)]
    simp [hm, getElem!_def]
  · have h1 : (rep z.toList n)[i]? = none := List.getElem?_eq_none (by rw [rep_length]; simpa using Nat.le_of_not_lt hi)
    simp only [Array.toList_map, Array.toList_range, List.getElem?_map]
    rw [h1, List.getElem?_eq_none (by simpa using Nat.le_of_not_lt hi)]
    rfl
theorem zeroCells_eq (z : Array Value) (n : Nat) : Builtin.zeroCells z n = ⟨rep z.toList n⟩ := zeros_eq z n
theorem cells_toArray (v : Value) : v.cells = ⟨cellsL v⟩ := rfl
include ok in
theorem zero_lit {t : TypeId} {z : Value} (h : E.zero t = some z) : VR ρ z z := by
  obtain ⟨i, hg, hz⟩ := zero_get h
  exact lit_VR (ok.zero _ _ _ hg hz).1 ρ
include ok in
theorem zero_len {t : TypeId} {z : Value} {n : Nat} (h : E.zero t = some z) (hn : E.size t = some n) : (cellsL z).length = n := by
  obtain ⟨i, hg, hz⟩ := zero_get h
  obtain ⟨j, hg', rfl⟩ := size_ok hn
  rw [hg] at hg'
  obtain rfl := Option.some.inj hg'
  exact (ok.zero _ _ _ hg hz).2
theorem capOf_lo (c : Nat) (b : Bool) : capLo (capOf c b) = c := by
  unfold capLo capOf
  cases b
  · show (2 * c + 0) / 2 = c; omega
  · show (2 * c + 1) / 2 = c; omega
theorem capOf_ex (c : Nat) (b : Bool) : capEx (capOf c b) = b := by
  unfold capEx capOf
  cases b
  · show Nat.beq ((2 * c + 0) % 2) 1 = false
    rw [show (2 * c + 0) % 2 = 0 from by omega]; rfl
  · show Nat.beq ((2 * c + 1) % 2) 1 = true
    rw [show (2 * c + 1) % 2 = 1 from by omega]; rfl
/-- A slice whose capacity is known. -/
theorem VR.slice_exact {b o n c : Nat} {x : Blk} (hb : ρ b = some x) (hn : n ≤ c) : VR ρ (.slice (some ⟨b, o, none⟩) n (capOf c true)) (.slice (some ⟨x.B, x.sh + o, none⟩) n c) :=
  .sl hb (.inl rfl) (by rw [capOf_lo]; exact Nat.le_refl _) (fun _ => (capOf_lo c true).symm) (fun h => by rw [capOf_ex] at h; cases h) hn
include ok in
theorem makeSliceA_ok {t : TypeId} {l c l' c' : Value} {s s' : St} {v : Value} (h : (makeSliceA E t l c).run s = some (v, s')) (r : WR P ρ B0 w0 s.mem w) (fr : Fr ρ s.mem s.ctr s'.ctr)
    (hl : VR ρ l l') (hc : VR ρ c c') : SR P ρ B0 w0 s s' v ((Instr.makeSlice t l' c').run P w) := by
  unfold makeSliceA at h
  obtain ⟨e, he, h⟩ := opt_run h
  obtain ⟨ln, hln, h⟩ := natP_run h
  obtain ⟨cn, hcn, h⟩ := natP_run h
  obtain ⟨z, hz, h⟩ := opt_run h
  obtain ⟨by_, hby, h⟩ := opt_run h
  obtain ⟨hle, h⟩ := gd_run h
  have hle := of_decide_eq_true hle
  obtain ⟨rfl, rfl⟩ := ret_run (new_run h)
  obtain ⟨kl, rfl⟩ := natOf_ok hln hl
  obtain ⟨kc, rfl⟩ := natOf_ok hcn hc
  have hd := elemOfSlice_ok he
  obtain ⟨i, hi, rfl⟩ := run_bytes hby
  obtain ⟨i', hi', hzz⟩ := zero_get hz
  rw [hi] at hi'
  obtain rfl := Option.some.inj hi'
  have hzs := zero_len ok hz (n := i.size) (by simp [Env.size, hi])
  have hzc : z.cells.size = i.size := by rw [← hzs]; rfl
  obtain ⟨ρ', g, hk, hrun, wr⟩ := newRow_ok (ex := true) (z := true) r fr ((zero_lit ok hz (ρ := ρ)).cells.rep cn) (ok.ty _ _ hi)
  refine ⟨ρ', .slice (some ⟨w.heap.size, 0, none⟩) ln cn, _, g, by simp only; omega, ?_, ?_, wr⟩
  · have hwl : IntKind.i64.wrap (ln : Int) = ln := IntWalk.i64_in _ (by omega)
    have hwc : IntKind.i64.wrap (cn : Int) = cn := IntWalk.i64_in _ (by omega)
    have hb : ¬ ((i.bytes : Int) * (cn : Int) > 2 ^ 48) := by
      have := hle.2.1
      have : ((i.bytes * cn : Nat) : Int) ≤ 1099511627776 := by omega
      simp only [Int.natCast_mul] at this
      omega
    have hcond : ¬ ((decide ((cn : Int) < 0) || decide ((i.bytes : Int) * (cn : Int) > 2 ^ 48) || decide ((ln : Int) < 0) || decide ((ln : Int) > (cn : Int))) = true) := by
      simp only [Bool.or_eq_true, decide_eq_true_eq]
      rintro (((h | h) | h) | h) <;> first | omega | exact hb h
    simp only [Instr.makeSlice, Sem.run_bind, run_und ok hd, Result.andThen_ok, asInt, asIntOf, Sem.run_pure, info_ok ok hi, hwl, hwc]
    rw [if_neg hcond]
    simp only [Sem.run_bind, run_askRoom, Result.andThen_ok, run_size ok (show E.size e = some i.size by simp [Env.size, hi]), Int.toNat_natCast]
    by_cases h0 : cn * i.size = 0
    · rw [if_pos h0, h0]
      have : rep (cellsL z) cn = [] := List.eq_nil_of_length_eq_zero (by rw [rep_length, hzs]; exact h0)
      rw [this] at hrun ⊢
      have e0 : ∀ f : Nat → Value, Array.map f (Array.range 0) = ⟨[]⟩ := fun f => by simp
      simp only [Sem.run_bind, Sem.run_pure, Result.andThen_ok, e0, hrun]
    · rw [if_neg h0]
      simp only [Sem.run_bind, run_zero ok hz, Result.andThen_ok, Sem.run_pure, ← hzc, zeros_eq]
      rw [show (⟨rep z.cells.toList cn⟩ : Array Value) = ⟨rep (cellsL z) cn⟩ from rfl, hrun]
      simp only [Result.andThen_ok]
  · have := VR.slice_exact (ρ := ρ') (o := 0) hk hle.1
    simpa using this
end
end Go.Ev
