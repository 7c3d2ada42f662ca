/- Oracles told by closed runs: values without addresses go in and come out. -/
import Derived.Test.YtpljgnjdlciicaaGreatDoorLyKQ25
namespace Go.Ev
open Go Go.RowKit
/-! Values without addresses. -/
mutual
inductive AF : Value → Prop
  | bool (b : Bool) : AF (.bool b)
  | int (k : IntKind) (n : Int) : AF (.int k n)
  | string (s : ByteArray) : AF (.string s)
  | nilIface : AF .nilIface
  | lst {es : List Value} : AFs (flatC es) → AF (.iface 1000000000 (.agg ⟨es⟩))
  | agg {a : List Value} : AFs a → AF (.agg ⟨a⟩)
  | tuple {a : List Value} : AFs a → AF (.tuple ⟨a⟩)
inductive AFs : List Value → Prop
  | nil : AFs []
  | cons {v : Value} {l : List Value} : AF v → AFs l → AFs (v :: l)
end
mutual
theorem VR.free {ρ ρ' : Map} (h : ∀ B x, ρ.ls B = some x → ρ'.ls B = some x) : ∀ {v v' : Value}, VR ρ v v' → AF v → VR ρ' v v'
  | _, _, .bool b, _ => .bool b
  | _, _, .int k n, _ => .int k n
  | _, _, .string s, _ => .string s
  | _, _, .nilIface, _ => .nilIface
  | _, _, .lst e a b c d, f => .lst (h _ _ e) (VRs.free h a (by cases f with | lst f => exact f)) b c d
  | _, _, .lst0, _ => .lst0
  | _, _, .agg a, f => .agg (VRs.free h a (by cases f with | agg f => exact f))
  | _, _, .tuple a, f => .tuple (VRs.free h a (by cases f with | tuple f => exact f))
  | _, _, .iface i a, f => by cases f; exact absurd i (by decide)
  | _, _, .float .., f => by cases f
  | _, _, .complex .., f => by cases f
  | _, _, .ptrN, f => by cases f
  | _, _, .ptr _, f => by cases f
  | _, _, .slN, f => by cases f
  | _, _, .sl .., f => by cases f
  | _, _, .mpN, f => by cases f
  | _, _, .mp _, f => by cases f
  | _, _, .fn .., f => by cases f
  | _, _, .nilFunc, f => by cases f
  | _, _, .xl .., f => by cases f
  | _, _, .xl0, f => by cases f
  | _, _, .ep .., f => by cases f
theorem VRs.free {ρ ρ' : Map} (h : ∀ B x, ρ.ls B = some x → ρ'.ls B = some x) : ∀ {l l' : List Value}, VRs ρ l l' → AFs l → VRs ρ' l l'
  | _, _, .nil, _ => .nil
  | _, _, .cons a b, f => .cons (VR.free h a (by cases f with | cons f _ => exact f)) (VRs.free h b (by cases f with | cons _ g => exact g))
end
def afB : Nat → Value → Bool
  | 0, _ => false
  | d + 1, v => match v with
    | .bool _ => true
    | .int _ _ => true
    | .string _ => true
    | .nilIface => true
    | .iface t (.agg ⟨es⟩) => Nat.beq t 1000000000 && (flatC es).all (afB d)
    | .agg ⟨a⟩ => a.all (afB d)
    | .tuple ⟨a⟩ => a.all (afB d)
    | _ => false
theorem afs_of {d : Nat} (ih : ∀ v, afB d v = true → AF v) : ∀ (l : List Value), l.all (afB d) = true → AFs l
  | [], _ => .nil
  | v :: l, h => by
    simp only [List.all_cons, Bool.and_eq_true] at h
    exact .cons (ih v h.1) (afs_of ih l h.2)
theorem afB_ok : ∀ (d : Nat) (v : Value), afB d v = true → AF v
  | 0, _, h => by cases h
  | d + 1, v, h => by
    unfold afB at h
    split at h
    · exact .bool _
    · exact .int _ _
    · exact .string _
    · exact .nilIface
    · simp only [Bool.and_eq_true] at h
      obtain rfl := Nat.eq_of_beq_eq_true h.1
      exact .lst (afs_of (afB_ok d) _ h.2)
    · exact .agg (afs_of (afB_ok d) _ h)
    · exact .tuple (afs_of (afB_ok d) _ h)
    · cases h
/-! Are two such values the same? -/
def eqW : Nat → Value → Value → Bool
  | 0, _, _ => false
  | d + 1, v, w => match v, w with
    | .bool a, .bool b => (match a, b with | true, true => true | false, false => true | _, _ => false)
    | .int k n, .int k' n' => decide (k = k') && decide (n = n')
    | .string a, .string b => beqB a.data.toList b.data.toList
    | .nilIface, .nilIface => true
    | .iface t a, .iface t' a' => Nat.beq t t' && eqW d a a'
    | .agg ⟨a⟩, .agg ⟨b⟩ => eqWs (eqW d) a b
    | .tuple ⟨a⟩, .tuple ⟨b⟩ => eqWs (eqW d) a b
    | _, _ => false
where eqWs (f : Value → Value → Bool) : List Value → List Value → Bool
  | [], [] => true
  | a :: l, b :: m => f a b && eqWs f l m
  | _, _ => false
theorem eqWs_ok {f : Value → Value → Bool} (ih : ∀ a b, f a b = true → a = b) : ∀ (l m : List Value), eqW.eqWs f l m = true → l = m
  | [], [], _ => rfl
  | a :: l, b :: m, h => by
    simp only [eqW.eqWs, Bool.and_eq_true] at h
    rw [ih a b h.1, eqWs_ok ih l m h.2]
  | [], _ :: _, h => by cases h
  | _ :: _, [], h => by cases h
theorem beqB_true : ∀ (a b : List UInt8), beqB a b = true → a = b
  | [], [], _ => rfl
  | [], _ :: _, h => by cases h
  | _ :: _, [], h => by cases h
  | a :: x, b :: y, h => by
    unfold beqB at h
    split at h
    · rename_i e
      rw [UInt8.toNat_inj.1 (Nat.eq_of_beq_eq_true e), beqB_true x y h]
    · cases h
theorem eqW_ok : ∀ (d : Nat) (v w : Value), eqW d v w = true → v = w
  | 0, _, _, h => by cases h
  | d + 1, v, w, h => by
    unfold eqW at h
    split at h
    · split at h
      · rfl
      · rfl
      · cases h
    · simp only [Bool.and_eq_true, decide_eq_true_eq] at h
      rw [h.1, h.2]
    · rename_i a b
      obtain ⟨⟨a⟩⟩ := a
      obtain ⟨⟨b⟩⟩ := b
      have := beqB_true a b h
      rw [this]
    · rfl
    · simp only [Bool.and_eq_true] at h
      rw [Nat.eq_of_beq_eq_true h.1, eqW_ok d _ _ h.2]
    · rw [eqWs_ok (eqW_ok d) _ _ h]
    · rw [eqWs_ok (eqW_ok d) _ _ h]
    · cases h
/-- What a list of closed calls says of a call. -/
def lookC : List (List Value × Value) → List Value → Option Value
  | [], _ => none
  | p :: l, args => match eqW.eqWs (eqW 40) args p.1 with
    | true => some p.2
    | false => lookC l args
theorem lookC_ok : ∀ {l : List (List Value × Value)} {args : List Value} {v : Value}, lookC l args = some v → (args, v) ∈ l
  | p :: l, args, v, h => by
    unfold lookC at h
    split at h
    · rename_i e
      obtain ⟨a, b⟩ := p
      have := eqWs_ok (eqW_ok 40) _ _ e
      simp only [Option.some.injEq] at h
      subst h
      rw [this]
      exact List.mem_cons_self ..
    · exact List.mem_cons_of_mem _ (lookC_ok h)
  | [], _, _, h => by cases h
/-- With other lists all still holds. -/
theorem MR.lists {P : Program} {ρ : Map} {B0 : Nat} {m : Tr Slot} {w : World} (r : MR P ρ B0 m w) (L : Nat → Option Blk) (hx : ∀ B x, ρ.ls B = some x → L B = some x)
    (hL : ∀ B x, L B = some x → ρ.ls B = some x ∨ (x.B = B ∧ (∃ c el fr, w.heap[B]? = some (.cells c el fr) ∧ c.toList = x.fc) ∧ (∀ b y, ρ b = some y → y.B ≠ B) ∧ B0 ≤ B)) : MR P ⟨ρ.f, L, ρ.l0⟩ B0 m w := by
  have hext : Ext ρ ⟨ρ.f, L, ρ.l0⟩ := ⟨fun _ _ e => e, hx, rfl⟩
  constructor
  · exact r.row
  · intro b h o v e e'
    obtain ⟨h1, x, v', e1, e2, e3⟩ := r.cell b h o v e e'
    exact ⟨h1, x, v', e1, e2, e3.ext hext⟩
  · exact r.sep
  · exact r.old
  · intro k o e hi
    obtain ⟨x, ob, e1, e0, e2, e3, e4⟩ := r.obj k o e hi
    exact ⟨x, ob, e1, e0, e2, e3, e4.ext hext⟩
  · exact r.osep
  · exact r.dom
  · exact r.odom
  · exact r.rng
  · intro B x e
    rcases hL B x e with h | ⟨h1, h2, h3, _⟩
    · exact r.frz B x h
    · exact ⟨h1, h2, fun b hd y _ e2 e3 => absurd e3 (h3 b y e2)⟩
  · intro B x e
    rcases hL B x e with h | ⟨_, _, _, h4⟩
    · exact r.lsB B x h
    · exact .inl h4
/-- A closed run's answer, given back into a run under way. -/
theorem merge_back {P : Program} {ρ ρ0 ρ1 : Map} {B0 : Nat} {w0 w w' : World} {m m1 : Tr Slot} {a b : Nat} {v v' : Value} (rr : WR P ρ B0 w0 m w) (h0 : ρ0.ls = ρ.ls) (h1 : ρ0.l0 = ρ.ls) (g : Gr ρ0 ρ1 a b) (hw : WR P ρ1 w.heap.size w m1 w') (hv : VR ρ1 v v') (hf : AF v) :
    ∃ ρ', (∀ c d, Gr ρ ρ' c d) ∧ VR ρ' v v' ∧ WR P ρ' B0 w0 m w' := by
  have hx : ∀ B x, ρ.ls B = some x → ρ1.ls B = some x := fun B x e => g.1.ls B x (by rw [h0]; exact e)
  have hB : B0 ≤ w.heap.size := Nat.le_trans rr.hB rr.bel.size
  refine ⟨⟨ρ.f, ρ1.ls, ρ.l0⟩, fun c d => ⟨⟨fun _ _ e => e, hx, rfl⟩, fun _ _ => rfl⟩, VR.free (ρ := ρ1) (ρ' := ⟨ρ.f, ρ1.ls, ρ.l0⟩) (fun _ _ e => e) hv hf, (rr.mr.belowO hw.bel).lists ρ1.ls hx fun B x e => ?_, rr.bel.trans (hw.bel.mono hB), rr.hB⟩
  rcases hw.mr.lsB B x e with h | h
  · obtain ⟨k1, k2, _⟩ := hw.mr.frz B x e
    exact .inr ⟨k1, k2, fun b y e2 e3 => by have := rr.mr.rng b y e2; omega, by omega⟩
  · rw [g.1.l0, h1] at h
    exact .inl h
/-- Does a run come to this value? -/
def isV (r : Option (Value × St)) (v : Value) : Bool := match r with
  | some (w, _) => eqW 40 w v
  | none => false
theorem isV_ok {r : Option (Value × St)} {v : Value} (h : isV r v = true) : ∃ s', r = some (v, s') := by
  unfold isV at h
  split at h
  · rename_i w s'
    exact ⟨s', by rw [eqW_ok 40 w v h]⟩
  · cases h
end Go.Ev
