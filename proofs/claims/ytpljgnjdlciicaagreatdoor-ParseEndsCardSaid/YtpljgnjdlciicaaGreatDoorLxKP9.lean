import Derived.Test.YtpljgnjdlciicaaGreatDoorLxKP7
import Derived.Test.YtpljgnjdlciicaaGreatDoorLxKP8
import Derived.Laws.Strings
import Derived.Calls
import GoSem.Extern.Table
namespace Go.Ev
open Go Go.RowKit
def extSem (code : Nat) (fn : Func) (e : Array Value → Sem Value) : Prop :=
  match code with
  | 1 => e = Extern.BytealgIndexByte.indexByte
  | 2 => ∃ ps, e = Extern.BytealgMakeNoZero.makeNoZero ps fn.resultTypes
  | 3 => e = Extern.AbiNoEscape.same
  | 4 => e = Extern.MapsClone.clone
  | _ => False
structure WR (P : Program) (ρ : Map) (B0 : Nat) (w0 : World) (m : Tr Slot) (w : World) : Prop where
  mr : MR P ρ B0 m w
  bel : Below B0 w0 w
  hB : B0 ≤ w0.heap.size
def GlOK (P : Program) (ρ : Map) : Prop := ∀ g, g < P.globals.size → ∃ x, ρ (gbase g) = some x ∧ x.B = g ∧ x.sh = 0
def OrcOK (P : Program) (f : Nat) (p : List Value → Prog) : Prop :=
  ∀ (B0 : Nat) (w0 w : World) (ρ : Map) (s s' : St) (v : Value) (args args' : List Value), (p args).run s = some (v, s') → WR P ρ B0 w0 s.mem w → Fr ρ s.mem s.ctr s'.ctr → GlOK P ρ → VRs ρ args args' →
    Calls P f ⟨args'⟩ w fun e w' => ∃ ρ' v', e = .returned v' ∧ Gr ρ ρ' s.ctr s'.ctr ∧ VR ρ' v v' ∧ WR P ρ' B0 w0 s'.mem w'
structure EnvOK (P : Program) (E : Env) : Prop where
  prog : E.P = P
  fn : ∀ f fn, E.fn.get f = some fn → P.funcs[f]? = some fn
  ty : ∀ t i, E.ty.get t = some i → P.info? t = some i
  zero : ∀ t i z, E.ty.get t = some i → i.zero = some z → lit z = true ∧ (cellsL z).length = i.size
  code : ∀ f fn c, E.fn.get f = some fn → fn.body = some c → okCode P.globals.size c = true
  names : ∀ f fn, E.fn.get f = some fn → (fn.name == "runtime.NumGoroutine") = false
  orc : ∀ f p, E.orc f = some p → OrcOK P f p
  ext : ∀ f fn c, E.fn.get f = some fn → E.ext.get f = some c → Extern.findNext fn = none ∧ ∃ e, Extern.find fn = some e ∧ extSem c fn e
section
variable {P : Program} {E : Env} (ok : EnvOK P E) {ρ : Map} {B0 : Nat}
include ok
theorem und_ok {t : TypeId} {d : TypeDesc} (h : E.und t = some d) : P.underlying t = some d := by
  unfold Env.und at h
  unfold Program.underlying
  cases hg : E.ty.get t with
  | none => rw [hg] at h; cases h
  | some i =>
    rw [hg] at h
    rw [ok.ty _ _ hg]
    obtain ⟨desc, str, size, bytes, hp, al, fa, z, cm, ms⟩ := i
    cases desc with
    | named n u =>
      simp only at h ⊢
      cases hu : E.ty.get u with
      | none => rw [hu] at h; cases h
      | some j => rw [hu] at h; rw [ok.ty _ _ hu]; exact h
    | _ => exact h
theorem run_und {t : TypeId} {d : TypeDesc} (h : E.und t = some d) (w : World) : (underlying t).run P w = .ok d w := by
  simp [underlying, und_ok ok h]
theorem info_ok {t : TypeId} {i : TypeInfo} (h : E.ty.get t = some i) (w : World) : (typeInfo t).run P w = .ok i w := by
  simp [typeInfo, ok.ty _ _ h]
omit ok in
theorem size_ok {t : TypeId} {n : Nat} (h : E.size t = some n) : ∃ i, E.ty.get t = some i ∧ i.size = n := by
  unfold Env.size at h
  split at h
  · rename_i i hg; exact ⟨i, hg, by simpa using h⟩
  · cases h
theorem run_size {t : TypeId} {n : Nat} (h : E.size t = some n) (w : World) : (sizeOf t).run P w = .ok n w := by
  obtain ⟨i, hg, rfl⟩ := size_ok h
  simp [sizeOf, info_ok ok hg]
omit ok in
theorem zero_get {t : TypeId} {z : Value} (h : E.zero t = some z) : ∃ i, E.ty.get t = some i ∧ i.zero = some z := by
  unfold Env.zero at h
  split at h
  · rename_i i hg; exact ⟨i, hg, h⟩
  · cases h
theorem run_zero {t : TypeId} {z : Value} (h : E.zero t = some z) (w : World) : (zeroValue t).run P w = .ok z w := by
  obtain ⟨i, hg, hz⟩ := zero_get h
  simp [zeroValue, info_ok ok hg, hz]
omit ok in
theorem run_bytes {t : TypeId} {n : Nat} (h : E.bytes t = some n) : ∃ i, E.ty.get t = some i ∧ i.bytes = n := by
  unfold Env.bytes at h
  split at h
  · rename_i i hg; exact ⟨i, hg, by simpa using h⟩
  · cases h
end
theorem lit1_VR {v : Value} (h : lit1 v = true) (ρ : Map) : VR ρ v v := by
  cases v with
  | bool b => exact .bool b
  | int k n => exact .int k n
  | float k b => exact .float k b
  | complex k a b => exact .complex k a b
  | string s => exact .string s
  | pointer a => cases a with
    | none => exact .ptrN
    | some a => simp [lit1] at h
  | slice a n c => cases a with
    | none =>
      simp only [lit1, Bool.and_eq_true] at h
      obtain rfl := Nat.eq_of_beq_eq_true h.1
      obtain rfl := Nat.eq_of_beq_eq_true h.2
      exact .slN
    | some a => simp [lit1] at h
  | map r => cases r with
    | none => exact .mpN
    | some r => simp [lit1] at h
  | nilFunc => exact .nilFunc
  | nilIface => exact .nilIface
  | _ => simp [lit1] at h
theorem lits_VR {l : List Value} (h : l.all lit1 = true) (ρ : Map) : VRs ρ l l := by
  induction l with
  | nil => exact .nil
  | cons v l ih =>
    simp only [List.all_cons, Bool.and_eq_true] at h
    exact .cons (lit1_VR h.1 ρ) (ih h.2)
theorem lit2_VR {v : Value} (h : lit2 v = true) (ρ : Map) : VR ρ v v := by
  cases v with
  | agg cs => exact .agg (lits_VR h ρ)
  | _ => exact lit1_VR (by simpa only [lit2] using h) ρ
theorem lits2_VR {l : List Value} (h : l.all lit2 = true) (ρ : Map) : VRs ρ l l := by
  induction l with
  | nil => exact .nil
  | cons v l ih =>
    simp only [List.all_cons, Bool.and_eq_true] at h
    exact .cons (lit2_VR h.1 ρ) (ih h.2)
theorem lit_VR {v : Value} (h : lit v = true) (ρ : Map) : VR ρ v v := by
  cases v with
  | agg cs => exact .agg (lits_VR h ρ)
  | tuple cs => exact .tuple (lits2_VR h ρ)
  | bool b => exact .bool b
  | int k n => exact .int k n
  | float k b => exact .float k b
  | complex k a b => exact .complex k a b
  | string s => exact .string s
  | pointer a => exact lit1_VR (v := .pointer a) h ρ
  | slice a n c => exact lit1_VR (v := .slice a n c) h ρ
  | map r => exact lit1_VR (v := .map r) h ρ
  | nilFunc => exact .nilFunc
  | nilIface => exact .nilIface
  | chan r => exact lit1_VR (v := .chan r) h ρ
  | func f a b => exact lit1_VR (v := .func f a b) h ρ
  | iface t v => exact lit1_VR (v := .iface t v) h ρ
theorem U_VR (ρ : Map) : VR ρ U U := .tuple .nil
theorem WR.size {P : Program} {ρ : Map} {B0 : Nat} {w0 w : World} {m : Tr Slot} (h : WR P ρ B0 w0 m w) : B0 ≤ w.heap.size := Nat.le_trans h.hB h.bel.size
def SR (P : Program) (ρ : Map) (B0 : Nat) (w0 : World) (s s' : St) (v : Value) (r : Result Value) : Prop :=
  ∃ ρ' v' w', Gr ρ ρ' s.ctr s'.ctr ∧ s.ctr ≤ s'.ctr ∧ r = .ok v' w' ∧ VR ρ' v v' ∧ WR P ρ' B0 w0 s'.mem w'
def UR (P : Program) (ρ : Map) (B0 : Nat) (w0 : World) (s s' : St) (r : Result Unit) : Prop :=
  ∃ w', s.ctr = s'.ctr ∧ r = .ok () w' ∧ WR P ρ B0 w0 s'.mem w'
section
variable {P : Program} {ρ : Map} {B0 : Nat} {w0 w : World}
theorem SR.pure {s s' : St} {v v' : Value} (h : WR P ρ B0 w0 s.mem w) (hm : s'.mem = s.mem) (hc : s'.ctr = s.ctr) (hv : VR ρ v v') : SR P ρ B0 w0 s s' v (.ok v' w) :=
  ⟨ρ, v', w, Gr.refl _ _ _, by omega, rfl, hv, hm ▸ h⟩
end
section
variable (P : Program) (w : World)
theorem arith_ok {op : BinOp} {k : IntKind} {x y : Int} {v : Value} (h : arith op k x y = some v) :
    (match op with
      | .add | .sub | .mul => Op.intArith op k x y
      | .quo | .rem => Op.intDiv op k x y
      | .and | .or | .xor | .andNot => Op.intBits op k x y
      | _ => Op.intCmp op x y).run P w = .ok v w ∧ lit v = true := by
  cases op <;> simp only [arith, Option.some.injEq] at h <;> first
    | (subst h; exact ⟨rfl, rfl⟩)
    | (split at h
       · cases h
       · rename_i hy
         simp only [Option.some.injEq] at h
         subst h
         refine ⟨?_, rfl⟩
         simp [Op.intDiv, hy])
    | cases h
theorem shift_ok {op : BinOp} {k yk : IntKind} {x y : Int} {v : Value} (h : shiftA op k x y = some v) : (Op.shift op k x yk y).run P w = .ok v w ∧ lit v = true := by
  unfold shiftA at h
  split at h
  · cases h
  · rename_i hy
    cases op <;> simp only [Option.some.injEq] at h <;> first
      | (subst h; refine ⟨?_, rfl⟩; simp [Op.shift, hy]; done)
      | cases h
theorem beqB_eq : ∀ a b : List UInt8, beqB a b = (a == b) := by
  intro a
  induction a with
  | nil => intro b; cases b <;> rfl
  | cons x a ih =>
    intro b
    cases b with
    | nil => rfl
    | cons y b =>
      rw [beqB, List.cons_beq_cons]
      cases h : Nat.beq x.toNat y.toNat with
      | true =>
        obtain rfl : x = y := UInt8.toNat_inj.1 (Nat.eq_of_beq_eq_true h)
        simp [ih]
      | false =>
        have : (x == y) = false := by
          rw [beq_eq_false_iff_ne]
          rintro rfl
          simp at h
        simp [this]
theorem lessB_eq : ∀ a b : List UInt8, lessB a b = Op.bytesLess a b := by
  intro a
  induction a with
  | nil => intro b; cases b <;> rfl
  | cons x a ih =>
    intro b
    cases b with
    | nil => rfl
    | cons y b =>
      rw [lessB, Op.bytesLess]
      cases h : Nat.blt x.toNat y.toNat with
      | true =>
        have : x < y := UInt8.lt_iff_toNat_lt.2 (Nat.le_of_ble_eq_true h)
        simp [this]
      | false =>
        have hn : ¬ x < y := fun h' => by
          have := Nat.ble_eq_true_of_le (UInt8.lt_iff_toNat_lt.1 h' : x.toNat + 1 ≤ y.toNat)
          rw [show Nat.ble (x.toNat + 1) y.toNat = false from h] at this
          cases this
        cases h2 : Nat.beq x.toNat y.toNat with
        | true =>
          obtain rfl : x = y := UInt8.toNat_inj.1 (Nat.eq_of_beq_eq_true h2)
          simp [ih]
        | false =>
          have : (x == y) = false := by
            rw [beq_eq_false_iff_ne]
            rintro rfl
            simp at h2
          simp [this, hn]
theorem strOp_ok {op : BinOp} {x y : ByteArray} {v : Value} (h : strOp op x y = some v) : (Op.stringOp op x y).run P w = .ok v w ∧ lit v = true := by
  cases op <;> simp only [strOp, beqB_eq, lessB_eq, Option.some.injEq] at h <;> first
    | (subst h; refine ⟨?_, rfl⟩; simp [Op.stringOp, ByteArray.toList_eq]; done)
    | (split at h
       · rename_i hle
         simp only [Option.some.injEq] at h
         subst h
         have hle := Nat.le_of_ble_eq_true hle
         refine ⟨?_, rfl⟩
         have hs : x.size + y.size ≤ 9223372036854775807 := hle
         have hx : ¬ (((x.size + y.size : Nat) : Int) > IntKind.i64.max) := by
           have : IntKind.i64.max = 9223372036854775807 := by decide
           omega
         have e : x ++ y = mkStr (x.data.toList ++ y.data.toList) := by
           apply ByteArray.ext
           simp [mkStr]
         simp only [Op.stringOp, if_neg hx, e]
         rfl
       · cases h)
    | cases h
end
theorem ba_beq (a b : ByteArray) : (a == b) = (a.data.toList == b.data.toList) := by
  show (a.data == b.data) = _
  rw [Bool.eq_iff_iff, beq_iff_eq, beq_iff_eq]
  exact Array.toList_inj.symm
section
variable {P : Program} {E : Env} (ok : EnvOK P E) {ρ : Map} {w : World}
include ok
set_option maxHeartbeats 1000000 in
theorem eqV_ok : ∀ (d D : Nat), d ≤ D → ∀ (t : TypeId) (x y x' y' : Value) (b : Bool), eqV E d t x y = some b → VR ρ x x' → VR ρ y y' → (Op.equalIn D t x' y').run P w = .ok b w := by
  intro d
  induction d with
  | zero => intro D _ t x y x' y' b h; simp [eqV] at h
  | succ d ih =>
    intro D hD t x y x' y' b h hx hy
    obtain ⟨D, rfl⟩ : ∃ D', D = D' + 1 := ⟨D - 1, by omega⟩
    unfold eqV at h
    split at h
    · rename_i ht
      cases hx; cases hy
      simp only [Option.some.injEq] at h
      subst h
      simp [Op.equalIn, run_und ok ht]
    · rename_i ht
      cases hx; cases hy
      split at h
      · rename_i hk
        simp only [Option.some.injEq] at h
        subst h
        simp [Op.equalIn, run_und ok ht, hk]
      · cases h
    · rename_i ht
      cases hx; cases hy
      simp only [Option.some.injEq, beqB_eq] at h
      subst h
      simp [Op.equalIn, run_und ok ht, ba_beq]
    · rename_i ht
      cases hx
      cases hy <;> (simp only [Option.some.injEq] at h; subst h; simp [Op.equalIn, run_und ok ht])
    · rename_i hne ht
      cases hy
      cases hx with
      | ptrN => exact (hne rfl).elim
      | ptr e =>
        simp only [Option.some.injEq] at h
        subst h
        simp [Op.equalIn, run_und ok ht]
    · rename_i e a b' ht
      cases hx with
      | ptr e1 => cases hy with
        | ptr e2 =>
          split at h
          · rename_i n hs
            split at h
            · rename_i hab
              simp only [Bool.and_eq_true] at hab
              obtain rfl := Nat.eq_of_beq_eq_true hab.1
              obtain rfl := Nat.eq_of_beq_eq_true hab.2
              rw [e1] at e2
              obtain rfl := Option.some.inj e2
              simp only [Option.some.injEq] at h
              subst h
              simp [Op.equalIn, run_und ok ht, run_size ok hs, sameAddr]
            · cases h
          · cases h
    · rename_i ht
      cases hx; cases hy
      simp only [Option.some.injEq] at h
      subst h
      simp [Op.equalIn, run_und ok ht]
    · rename_i ty _ ht
      cases hx
      split at h
      · rename_i hlt
        simp only [Option.some.injEq] at h
        subst h
        cases hy with
        | iface _ hy => simp [Op.equalIn, run_und ok ht]
        | _ => exact absurd hlt (by decide)
      · cases h
    · rename_i tx _ ht
      cases hy
      split at h
      · rename_i hlt
        simp only [Option.some.injEq] at h
        subst h
        cases hx with
        | iface _ hx => simp [Op.equalIn, run_und ok ht]
        | _ => exact absurd hlt (by decide)
      · cases h
    · rename_i tx vx ty vy ht
      split at h
      · cases h
      rename_i hlts
      simp only [Bool.and_eq_true] at hlts
      obtain ⟨hlx, hly⟩ := hlts
      cases hx with
      | iface _ hx => cases hy with
        | iface _ hy =>
          split at h
          · rename_i hne
            simp only [Option.some.injEq] at h
            subst h
            have : tx ≠ ty := fun e => by subst e; simp at hne
            simp [Op.equalIn, run_und ok ht, this]
          · rename_i heq
            obtain rfl := Nat.eq_of_beq_eq_true heq
            split at h
            · rename_i i hi
              split at h
              · rename_i hc
                simp [Op.equalIn, run_und ok ht, info_ok ok hi, hc]
                exact ih D (by omega) tx vx vy _ _ b h hx hy
              · cases h
            · cases h
        | _ => exact absurd hly (by decide)
      | _ => exact absurd hlx (by decide)
    · rename_i ht
      cases hx
      cases hy <;> (simp only [Option.some.injEq] at h; subst h; simp [Op.equalIn, run_und ok ht])
    · rename_i hne ht
      cases hy
      cases hx with
      | slN => exact (hne rfl).elim
      | sl e =>
        simp only [Option.some.injEq] at h
        subst h
        simp [Op.equalIn, run_und ok ht]
    · rename_i ht
      split at h
      · rename_i hlf
        obtain rfl := Nat.eq_of_beq_eq_true hlf
        simp only [Option.some.injEq] at h
        subst h
        cases hy
        cases hx with
        | iface hlt _ => exact absurd hlt (by decide)
        | lst => simp [Op.equalIn, run_und ok ht]
      · cases h
    · rename_i ht
      cases hx
      cases hy <;> (simp only [Option.some.injEq] at h; subst h; simp [Op.equalIn, run_und ok ht])
    · rename_i hne ht
      cases hy
      cases hx with
      | mpN => exact (hne rfl).elim
      | mp e =>
        simp only [Option.some.injEq] at h
        subst h
        simp [Op.equalIn, run_und ok ht]
    · rename_i ht
      cases hx; cases hy
      simp only [Option.some.injEq] at h
      subst h
      simp [Op.equalIn, run_und ok ht]
    · rename_i ht
      cases hx; cases hy
      simp only [Option.some.injEq] at h
      subst h
      simp [Op.equalIn, run_und ok ht]
    · rename_i ht
      cases hx; cases hy
      simp only [Option.some.injEq] at h
      subst h
      simp [Op.equalIn, run_und ok ht]
    · cases h
end
end Go.Ev
